/-
  The walk of 'plain': whole numbers as values, and the greatest amount of one.
-/
import Derived.Test.YtcgoicijbmhmpaaD3
namespace Go.Proofs.Ytcgoicijbmhmpaa
open Go.RowKit Go.Fl Go.Deep

/-- The greater of two numbers, as the built-in finds it. -/
def fmax (x y : Nat) : Nat := match FloatKind.f64.format.order x y with
  | some .lt => y
  | some .gt => x
  | some .eq => if (FloatKind.f64.decode x).neg then y else x
  | none => 0
def fmin (x y : Nat) : Nat := match FloatKind.f64.format.order x y with
  | some .lt => x
  | some .gt => y
  | some .eq => if (FloatKind.f64.decode x).neg then x else y
  | none => 0
theorem ord_some {x y : Nat} (hx : isFin x) (hy : isFin y) : ∃ o, FloatKind.f64.format.order x y = some o := ⟨_, order_spec hx hy⟩
theorem run_max_float {x y : Nat} (hx : isFin x) (hy : isFin y) (P : Program) (w : World) (ts : Array TypeId) (t : TypeId) :
    (Builtin.max_ ts t #[.float .f64 x, .float .f64 y]).run P w = .ok (.float .f64 (fmax x y)) w := by
  obtain ⟨o, ho⟩ := ord_some hx hy
  unfold fmax
  cases o <;> simp [Builtin.max_, Builtin.max2, ho]
theorem run_min_float {x y : Nat} (hx : isFin x) (hy : isFin y) (P : Program) (w : World) (ts : Array TypeId) (t : TypeId) :
    (Builtin.min_ ts t #[.float .f64 x, .float .f64 y]).run P w = .ok (.float .f64 (fmin x y)) w := by
  obtain ⟨o, ho⟩ := ord_some hx hy
  unfold fmin
  cases o <;> simp [Builtin.min_, Builtin.min2, ho]
theorem fmax_ok {x y : Nat} (hx : isFin x) (hy : isFin y) : isFin (fmax x y) ∧ fv x ≤ fv (fmax x y) ∧ fv y ≤ fv (fmax x y) ∧ (fv (fmax x y) = fv x ∨ fv (fmax x y) = fv y) := by
  have h : FloatKind.f64.format.order x y = _ := order_spec hx hy
  unfold fmax
  rw [h]
  rcases ord3 (fv x) (fv y) with ⟨h1, h2⟩ | ⟨h1, h2⟩ | ⟨h1, h2⟩ <;> rw [h2]
  · exact ⟨hy, Rat.le_of_lt h1, Rat.le_refl, .inr rfl⟩
  · simp only
    split
    · exact ⟨hy, by rw [h1]; exact Rat.le_refl, Rat.le_refl, .inr rfl⟩
    · exact ⟨hx, Rat.le_refl, by rw [h1]; exact Rat.le_refl, .inl rfl⟩
  · exact ⟨hx, Rat.le_refl, Rat.le_of_lt h1, .inl rfl⟩
theorem fmin_ok {x y : Nat} (hx : isFin x) (hy : isFin y) : isFin (fmin x y) ∧ fv (fmin x y) ≤ fv x ∧ fv (fmin x y) ≤ fv y ∧ (fv (fmin x y) = fv x ∨ fv (fmin x y) = fv y) := by
  have h : FloatKind.f64.format.order x y = _ := order_spec hx hy
  unfold fmin
  rw [h]
  rcases ord3 (fv x) (fv y) with ⟨h1, h2⟩ | ⟨h1, h2⟩ | ⟨h1, h2⟩ <;> rw [h2]
  · exact ⟨hx, Rat.le_refl, Rat.le_of_lt h1, .inl rfl⟩
  · simp only
    split
    · exact ⟨hx, Rat.le_refl, by rw [h1]; exact Rat.le_refl, .inl rfl⟩
    · exact ⟨hy, by rw [h1]; exact Rat.le_refl, Rat.le_refl, .inr rfl⟩
  · exact ⟨hy, Rat.le_of_lt h1, Rat.le_refl, .inr rfl⟩

/-- The values that 'plain' makes of n numbers, how many there are, and the greatest amount. -/
def vals (l : Nat → Int) (n : Nat) (k : Nat) : Nat := if n = 0 then 0 else ofI (l k)
def cnt (n : Nat) : Nat := if n = 0 then 1 else min n 400
def mostW (l : Nat → Int) : Nat → Nat
  | 0 => 0
  | k + 1 => fmax (mostW l k) (absb (ofI (l k)))
theorem cnt_pos (n : Nat) : 1 ≤ cnt n := by unfold cnt; split <;> omega
theorem cnt_le (n : Nat) : cnt n ≤ 400 := by unfold cnt; split <;> omega
theorem ofI32 {x : Int} (h : (Lit.int .i32 x).wf = true) : isFin (ofI x) ∧ fv (ofI x) = (x : Rat) ∧ (fv (ofI x)).abs ≤ 2147483648 := by
  have hb : -2147483648 ≤ x ∧ x ≤ 2147483647 := by simpa [Lit.wf, IntKind.min, IntKind.max, IntKind.bits, IntKind.signed] using h
  obtain ⟨a, b⟩ := ofI_ok x (by omega)
  refine ⟨a, b, ?_⟩
  rw [b]
  have h1 : (x : Rat) ≤ ((2147483647 : Int) : Rat) := Rat.intCast_le_intCast.2 hb.2
  have h2 : ((-2147483648 : Int) : Rat) ≤ (x : Rat) := Rat.intCast_le_intCast.2 hb.1
  have e1 : ((2147483647 : Int) : Rat) = 2147483647 := rfl
  have e2 : ((-2147483648 : Int) : Rat) = -2147483648 := rfl
  rw [e1] at h1
  rw [e2] at h2
  exact abs_of (by grind) (by grind)
theorem most_ok {l : Nat → Int} {n : Nat} (h : ∀ k, k < n → (Lit.int .i32 (l k)).wf = true) : ∀ k, k ≤ n → isFin (mostW l k) ∧ 0 ≤ fv (mostW l k) ∧ fv (mostW l k) ≤ 2147483648 ∧ (fv (mostW l k) = 0 ∨ 1 ≤ fv (mostW l k)) ∧ ∀ j, j < k → (fv (ofI (l j))).abs ≤ fv (mostW l k) := by
  intro k
  induction k with
  | zero => intro _; exact ⟨isFin_zero, by show 0 ≤ fv 0; rw [fv_zero]; exact Rat.le_refl, by show fv 0 ≤ _; rw [fv_zero]; decide +kernel, .inl fv_zero, fun j hj => by omega⟩
  | succ k ih =>
    intro hk
    obtain ⟨a1, a2, a3, a4, a5⟩ := ih (by omega)
    obtain ⟨b1, b2, b3⟩ := ofI32 (h k (by omega))
    have c1 := isFin_abs b1
    have c2 := fv_abs b1
    obtain ⟨d1, d2, d3, d4⟩ := fmax_ok a1 c1
    rw [c2] at d3 d4
    have hone : (fv (ofI (l k))).abs = 0 ∨ 1 ≤ (fv (ofI (l k))).abs := by
      rw [b2]
      by_cases h0 : l k = 0
      · left; rw [h0]; rfl
      · right
        rcases Int.lt_or_gt_of_ne h0 with h1 | h1
        · have h2 : ((l k : Int) : Rat) ≤ ((-1 : Int) : Rat) := Rat.intCast_le_intCast.2 (by omega)
          have e : ((-1 : Int) : Rat) = -1 := rfl
          have := (abs_le (Rat.le_refl (a := ((l k : Int) : Rat).abs))).2
          rw [e] at h2
          grind
        · have h2 : ((1 : Int) : Rat) ≤ ((l k : Int) : Rat) := Rat.intCast_le_intCast.2 (by omega)
          have e : ((1 : Int) : Rat) = 1 := rfl
          have := (abs_le (Rat.le_refl (a := ((l k : Int) : Rat).abs))).1
          rw [e] at h2
          grind
    refine ⟨d1, Rat.le_trans a2 d2, ?_, ?_, fun j hj => ?_⟩
    · show fv (fmax _ _) ≤ _
      rcases d4 with e | e <;> rw [e] <;> assumption
    · show fv (fmax _ _) = 0 ∨ 1 ≤ fv (fmax _ _)
      rcases d4 with e | e <;> rw [e] <;> assumption
    · show _ ≤ fv (fmax _ _)
      by_cases hjk : j = k
      · subst hjk; exact d3
      · exact Rat.le_trans (a5 j (by omega)) d2

/-- What 'plain' gives. -/
def Plain (w : World) (l : Nat → Int) (n : Nat) (e : Ending) (w' : World) : Prop :=
  (∃ G c, e = .returned (.tuple #[.slice (some ⟨G, 0, none⟩) (cnt n) c, .float .f64 (mostW l (min n 400))]) ∧ w.heap.size ≤ G ∧ w'.ownsRow w.heap.size 22 1 (.slice (some ⟨G, 0, none⟩) (cnt n) c) (cnt n) (cellsOf (vals l n) (cnt n))) ∧ Below w.heap.size w w'

theorem own_some {w w1 : World} {k : Nat} {g : Nat → Nat} {v : Value} (hk : 0 < k) (h : w1.ownsRow w.heap.size 22 1 v k (cellsOf g k)) : ∃ G c, v = .slice (some ⟨G, 0, none⟩) k c ∧ w.heap.size ≤ G := by
  obtain ⟨g', cap, hv, hl, hlt⟩ := h.form (by omega)
  exact ⟨g', cap, hv, hl⟩
theorem cellsOf_congr {f g : Nat → Nat} {n : Nat} (h : ∀ j, j < n → f j = g j) : cellsOf f n = cellsOf g n := by
  unfold cellsOf
  exact List.map_congr_left fun j hj => by rw [h j (List.mem_range.1 hj)]

set_option maxRecDepth 100000 in
set_option maxHeartbeats 2000000 in
theorem plain_c (A : Option Addr) (n c : Nat) (l : Nat → Int) (w : World) (h : IntsIn w .i32 A n l) :
    Calls Try.prog 40 #[.slice A n c] w (Plain w l n) := by
  obtain ⟨i0, hi, hz0, hz1, hz2⟩ := info_parts Try.info22
  have HR := Lib.hid h.row
  have HW := Lib.hid h.wf
  have HL := h.len
  unfold maxLen at HL
  clear h
  go_enter Try.func40, Try.ntmps40
  go_wp2
  go_loopw [4, 5, 6] (fun v s i wr => ∃ k : Nat, k ≤ n ∧ k ≤ 400 ∧ i = .int .i64 k ∧ s = .float .f64 (mostW l k) ∧ Hid (wr.ownsRow w.heap.size 22 1 v k (cellsOf (fun j => ofI (l j)) k)) ∧ Below w.heap.size w wr) (fun _ _ i _ => n - (intOf i).toNat)
  case atStart => exact ⟨0, Nat.zero_le _, by omega, rfl, rfl, Lib.hid (own_none w), (Below.refl _ w).alloc (Nat.le_refl _) _⟩
  case round =>
    obtain ⟨k, hk, hk4, rfl, rfl, hown, hbel⟩ := hrel
    by_cases hkn : k < n
    · by_cases hk5 : k < 400
      · obtain ⟨b, off, rfl, hb, hc⟩ := HR.out (by omega)
        have c1 := (hbel.cell (p := ⟨b, off + k, none⟩) hb).trans (hc k hkn)
        obtain ⟨f1, _, _⟩ := ofI32 (HW.out k hkn)
        obtain ⟨m1, _⟩ := most_ok HW.out k (by omega)
        have hmx := fun W => run_max_float m1 (isFin_abs f1) Try.prog W
        have CA := Lib.hid (fun W => abs_any (ofI (l k)) f1.1 W)
        clear f1 m1
        have HC := Lib.hid hc
        clear hc
        have l1 : (k : Int) < n := by omega
        have l2 : (k : Int) < 400 := by omega
        go_wp2_with (first | (go_at_call 42; refine (CA.out _).mono ?_; rintro e w' ⟨rfl, rfl⟩) | (at_builtin; refine wpList_append_own _ rfl _ _ 24 rfl w.heap.size 22 i0 (.float .f64 0) 1 8 Try.underlying24 hi hz0 hz1 hz2 rfl (by decide) _ _ _ rfl (hown.out.alloc _) ⟨_, 0, none⟩ 1 1 [.float .f64 (ofI (l k))] rfl rfl (cell_one_new _ _ _) (by simp [Value.oneCell']) (by unfold maxLen; omega) (by omega) (by have := hbel.size; simp; omega) ?_; intro v' w2 hown' hgrow _; have R := own_step (g := fun j => ofI (l j)) hown.out (hbel.alloc hbel.size _) hgrow hown'; have c2 := (R.2.cell (p := ⟨b, off + k, none⟩) hb).trans (HC.out k hkn); clear hown' hgrow hown c1))
        go_roundw
        case rel => exact ⟨k + 1, by omega, by omega, by go_num, rfl, R.1, R.2⟩
        case measure => simp [intOf]; omega
      · have hk6 : k = 400 := by omega
        have e1 := Lib.hid (show cnt n = k by unfold cnt; rw [if_neg (by omega)]; omega)
        have e2 := Lib.hid (show min n 400 = k by omega)
        obtain ⟨G, cc, rfl, hG⟩ := own_some (by omega) hown.out
        have l1 : (k : Int) < n := by omega
        have l2 : ¬ (k : Int) < 400 := by omega
        have l3 : ((k : Int) == 0) = false := by rw [beq_eq_false_iff_ne]; omega
        have hv := Lib.hid (cellsOf_congr (f := fun j => ofI (l j)) (g := vals l n) (n := k) (fun j hj => by unfold vals; rw [if_neg (by omega)]))
        clear hk6
        go_wp2
        go_ret2
        exact ⟨⟨G, cc, by rw [e1.out, e2.out]; rfl, hG, by rw [e1.out, ← hv.out]; exact hown.out⟩, hbel⟩
    · have hkk : k = n := by omega
      have l1 : ¬ (k : Int) < n := by omega
      by_cases h0 : k = 0
      · subst h0
        have e1 := Lib.hid (show cnt n = 1 by unfold cnt; rw [if_pos hkk.symm])
        have e2 := Lib.hid (show min n 400 = 0 by omega)
        have ev := Lib.hid (show cellsOf (vals l n) 1 = [] ++ [Value.float .f64 0] by unfold cellsOf vals; rw [← hkk]; rfl)
        clear hkk
        obtain ⟨A2, d2, rfl, _⟩ := own_rowF hown.out
        go_wp2_with (at_builtin; refine wpList_append_own _ rfl _ _ 24 rfl w.heap.size 22 i0 (.float .f64 0) 1 8 Try.underlying24 hi hz0 hz1 hz2 rfl (by decide) _ _ _ rfl (hown.out.alloc _) ⟨_, 0, none⟩ 1 1 [.float .f64 0] rfl rfl (cell_one_new _ _ _) (by simp [Value.oneCell']) (by unfold maxLen; omega) (by omega) (by have := hbel.size; simp; omega) ?_; intro v' w2 hown' hgrow _)
        have hb2 : Below w.heap.size w w2 := (hbel.alloc hbel.size _).grown hgrow (hbel.alloc hbel.size _).size (own_ge hown.out)
        obtain ⟨G, cc, rfl, hG, _⟩ := hown'.form (by omega)
        have HO := Lib.hid hown'
        clear hown' hgrow hown
        go_wp2
        go_ret2
        exact ⟨⟨G, cc, by rw [e1.out, e2.out]; rfl, hG, by rw [e1.out, ev.out]; exact HO.out⟩, hb2⟩
      · have e1 := Lib.hid (show cnt n = k by unfold cnt; rw [if_neg (by omega)]; omega)
        have e2 := Lib.hid (show min n 400 = k by omega)
        obtain ⟨G, cc, rfl, hG⟩ := own_some (by omega) hown.out
        have l3 : ((k : Int) == 0) = false := by rw [beq_eq_false_iff_ne]; omega
        have hv := Lib.hid (cellsOf_congr (f := fun j => ofI (l j)) (g := vals l n) (n := k) (fun j hj => by unfold vals; rw [if_neg (by omega)]))
        clear hkk
        go_wp2
        go_ret2
        exact ⟨⟨G, cc, by rw [e1.out, e2.out]; rfl, hG, by rw [e1.out, ← hv.out]; exact hown.out⟩, hbel⟩
end Go.Proofs.Ytcgoicijbmhmpaa
