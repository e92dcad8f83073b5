import Derived.Test.YtipgbbhgmoehfaaYM3
/-
  graph: Components, Row.
-/
namespace Go.Proofs.Ytipgbbhgmoehfaa
open Go.RowKit
attribute [local go_sem] Oper.semAt_some
set_option linter.unusedSimpArgs false
set_option linter.unusedSectionVars false

theorem maxL_more (l : List Int) (v : Int) : maxL (l ++ [v]) = max (maxL l) (max v 0) := by
  induction l with
  | nil => simp only [List.nil_append, maxL]; omega
  | cons u l ih => simp only [List.cons_append, maxL, ih]; omega
theorem setsTo_all (n : Nat) (lab : Nat → Nat) : setsTo n lab n = setsL n lab one := rfl
/-- The components of a graph. -/
def CompPost (W : World) (n : Nat) (lab : Nat → Nat) (e : Ending) (w' : World) : Prop := ∃ v xs, e = .returned v ∧ w'.ownsRow W.heap.size 30 1 v (roots n lab) xs ∧ xs.map lenV = setsL n lab one ∧ Only [] W w'
set_option maxRecDepth 100000 in
theorem Comp_any {W : World} {G n m : Nat} {u v x : Nat → Int} {p q : Nat → Nat} (h : GAt W G n m u v x) (hn : n ≤ 4096) (hpq : ∀ j, j < m → u j = p j ∧ v j = q j ∧ p j < n ∧ q j < n) : Calls Try.prog 39 #[.pointer (some ⟨G, 0, none⟩)] W (CompPost W n (labK p q id m)) := by
  have CP := Lib.hid (parts_any h (by omega) hpq)
  have HL := Lib.hid (labK_labs (p := p) (q := q) (o := id) (k := m) (n := n) fun i hi => ⟨(hpq i hi).2.2.1, (hpq i hi).2.2.2⟩)
  clear h
  go_enter Try.func39, Try.ntmps39
  go_wp2_with fail
  refine CP.out.mono ?_
  rintro e w1 ⟨F, S, rfl, hd, hF, hO⟩
  have CG := Lib.hid (Groups_any hd HL.out hn)
  have HF := Lib.hid hF
  have HO := Lib.hid hO
  clear hd hF hO CP
  go_wp2_with fail
  refine CG.out.mono ?_
  rintro e w2 ⟨v', xs, rfl, ho, hx, hO2⟩
  have HP := Lib.hid (show CompPost W n (labK p q id m) (.returned v') w2 from ⟨v', xs, rfl, owns_base ho HO.out.size, hx, HO.out.to hO2 fun i hi hlt => by have := HF.out i hi; omega⟩)
  clear ho hx hO2 CG
  go_wp2_with fail
  go_ret
  exact HP.out
/-- The row under way. -/
structure RowI (W : World) (R X : Nat) (L : List Int) (k : Nat) (wr : World) : Prop where
  res : wr.heap[R]? = some (.cells #[.int .i64 0, .int .i64 0, .int .i64 0] 39 (0, 0))
  box : wr.heap[X]? = some (.cells #[.int .i64 (maxL (L.take k)), .int .i64 k, .int .i64 (sqL (L.take k) : Nat)] 39 (0, 0))
  only : Only [] W wr
theorem RowI.step {W : World} {R X : Nat} {L : List Int} {k : Nat} {wr : World} (h : RowI W R X L k wr) (hRX : R ≠ X) (hX : W.heap.size ≤ X) {y : Nat} (hy : L[k]? = some (y : Int)) {mo : Int} {sq : Nat} (hm : maxL (L.take k) = mo) (hs : sqL (L.take k) = sq) :
    RowI W R X L (k + 1) (((wr.setCell ⟨X, 0, none⟩ (.int .i64 (max mo (y : Int)))).setCell ⟨X, 1, none⟩ (.int .i64 ((k : Int) + 1))).setCell ⟨X, 2, none⟩ (.int .i64 ((sq : Int) + (y : Int) * (y : Int)))) := by
  have hb := h.box
  rw [hm, hs] at hb
  have k3 := heap_setCell_same _ _ 2 _ 39 (.int .i64 ((sq : Int) + (y : Int) * (y : Int))) (heap_setCell_same _ _ 1 _ 39 (.int .i64 ((k : Int) + 1)) (heap_setCell_same wr _ 0 _ 39 (.int .i64 (max mo (y : Int))) hb))
  have ht : L.take (k + 1) = L.take k ++ [(y : Int)] := by rw [List.take_add_one, hy]; rfl
  refine ⟨head_other (head_other (head_other h.res hRX _) hRX _) hRX _, ?_, h.only.to ((((Only.refl [X] wr).setCell (g := X) (i := 0) (by simp) _).setCell (g := X) (i := 1) (by simp) _).setCell (g := X) (i := 2) (by simp) _) fun j hj hlt => by simp at hj; omega⟩
  rw [ht, maxL_more, sqL_append, hm, hs]
  have e1 : max mo (max (y : Int) 0) = max mo (y : Int) := by omega
  have e2 : ((sq + sqL [(y : Int)] : Nat) : Int) = (sq : Int) + (y : Int) * (y : Int) := by simp [sqL]
  rw [e1, e2]
  exact k3
theorem lenV_pos {xs : List Value} {L : List Int} (h : xs.map lenV = L) {k : Nat} {y : Nat} (hy : L[k]? = some (y : Int)) (h1 : 1 ≤ y) : ∃ A c, xs[k]? = some (.slice A y c) := by
  rw [← h, List.getElem?_map] at hy
  cases hx : xs[k]? with
  | none => rw [hx] at hy; cases hy
  | some v =>
    rw [hx] at hy
    replace hy : lenV v = (y : Int) := by simpa using hy
    cases v with
    | slice A n c =>
      obtain rfl : n = y := Int.ofNat.inj hy
      exact ⟨A, c, rfl⟩
    | _ => exact absurd hy (by simp only [lenV]; omega)
theorem owns_three {W : World} {base e size n : Nat} {v : Value} {xs : List Value} {g X : Nat} {r cap : Nat} {x0 x1 x2 : Value} (h : W.ownsRow base e size v n xs) (hv : v = .slice (some ⟨g, 0, none⟩) r cap) (hne : g ≠ X) :
    (((W.setCell ⟨X, 0, none⟩ x0).setCell ⟨X, 1, none⟩ x1).setCell ⟨X, 2, none⟩ x2).ownsRow base e size v n xs := by
  subst hv
  obtain ⟨hl, ⟨h0, _⟩ | ⟨g', cap', cur, hv, hb, hh, rest⟩⟩ := h
  · cases h0
  · cases hv
    exact ⟨hl, .inr ⟨g, cap, cur, rfl, hb, head_other (head_other (head_other hh hne _) hne _) hne _, rest⟩⟩
set_option maxRecDepth 100000 in
set_option maxHeartbeats 4000000 in
theorem GRow_any {W : World} {G n m : Nat} {u v x : Nat → Int} {p q : Nat → Nat} (h : GAt W G n m u v x) (hn : n ≤ 4096) (hpq : ∀ j, j < m → u j = p j ∧ v j = q j ∧ p j < n ∧ q j < n) : Calls Try.prog 12 #[.pointer (some ⟨G, 0, none⟩)] W fun e w' =>
    e = .returned (.agg #[.int .i64 (largest n (labK p q id m) one), .int .i64 (roots n (labK p q id m)), .int .i64 (squares n (labK p q id m) one)]) ∧ Only [] W w' := by
  have hLabs := labK_labs (p := p) (q := q) (o := id) (k := m) (n := n) fun i hi => ⟨(hpq i hi).2.2.1, (hpq i hi).2.2.2⟩
  obtain ⟨lab, hlab⟩ : ∃ lab, labK p q id m = lab := ⟨_, rfl⟩
  have hOW := ((Only.refl [] W).alloc (.cells #[.int .i64 0, .int .i64 0, .int .i64 0] 39)).alloc (.cells #[.int .i64 0, .int .i64 0, .int .i64 0] 39)
  have CC := Lib.hid (Comp_any (h.only hOW) hn hpq)
  rw [hlab] at CC hLabs ⊢
  have HI := Lib.hid (show RowI W W.heap.size (W.heap.size + 1) (setsL n lab one) 0 ((W.alloc (.cells #[.int .i64 0, .int .i64 0, .int .i64 0] 39)).alloc (.cells #[.int .i64 0, .int .i64 0, .int .i64 0] 39)) from
    ⟨(two_rows W _ _ _).1, (two_rows W _ _ _).2, hOW⟩)
  have HL := Lib.hid (show ∀ k, k < roots n lab → ∃ y : Nat, (setsL n lab one)[k]? = some (y : Int) ∧ 1 ≤ y ∧ y ≤ 4096 from fun k hk => by
    have hlen : (setsL n lab one).length = roots n lab := setsL_len n lab one
    obtain ⟨z, hz⟩ : ∃ z, (setsL n lab one)[k]? = some z := ⟨_, List.getElem?_eq_getElem (by omega)⟩
    obtain ⟨a, ha, hl, rfl⟩ := setsL_mem (List.mem_of_getElem? hz)
    refine ⟨_, hz, ?_, ?_⟩
    · have := total_at_le ha (fun b => if lab b = a then one b else 0)
      rw [if_pos hl] at this
      exact this
    · have := sumOf_le n lab one a
      rw [total_one] at this
      omega)
  have hrn := roots_le n lab
  have hsq := squares_bound (wt := one) hLabs (by rw [total_one]; omega)
  rw [← sqL_sets] at hsq
  have HSq := Lib.hid (show ∀ k, sqL ((setsL n lab one).take k) ≤ sqL (setsL n lab one) from fun k => by
    conv => rhs; rw [← List.take_append_drop k (setsL n lab one)]
    rw [sqL_append]
    omega)
  have HMx := Lib.hid (show ∀ k, 0 ≤ maxL ((setsL n lab one).take k) ∧ maxL ((setsL n lab one).take k) ≤ 4096 from fun k => ⟨maxL_nonneg _, maxL_le (by omega) fun v hv => by
    obtain ⟨a, _, _, rfl⟩ := setsL_mem (List.mem_of_mem_take hv)
    have := sumOf_le n lab one a
    rw [total_one] at this
    omega⟩)
  have HEq := Lib.hid (show largest n lab one = maxL ((setsL n lab one).take (roots n lab)) ∧ squares n lab one = sqL ((setsL n lab one).take (roots n lab)) by
    rw [List.take_of_length_le (by rw [setsL_len]; exact Nat.le_refl _)]
    exact ⟨rfl, (sqL_sets n lab one).symm⟩)
  obtain ⟨Ls, hLs⟩ : ∃ Ls, setsL n lab one = Ls := ⟨_, rfl⟩
  obtain ⟨r, hr⟩ : ∃ r, roots n lab = r := ⟨_, rfl⟩
  rw [hLs] at HI HL hsq HSq HMx HEq
  obtain ⟨la, hla⟩ : ∃ la, largest n lab one = la := ⟨_, rfl⟩
  obtain ⟨lc, hlc⟩ : ∃ lc, squares n lab one = lc := ⟨_, rfl⟩
  rw [hr, hla, hlc] at HEq ⊢
  rw [hr] at HL hrn
  have HR := Lib.hid (And.intro hr hLs)
  clear h hLabs hlab hOW hr hLs hla hlc
  go_enter Try.func12, Try.ntmps12
  go_wp2_with fail
  refine CC.out.mono ?_
  rintro e w1 ⟨vc, xs, rfl, ho, hx, hO⟩
  rw [HR.out.1] at ho
  rw [HR.out.2] at hx
  obtain ⟨R, hR⟩ : ∃ R, W.heap.size = R := ⟨_, rfl⟩
  have H1 := Lib.hid (show RowI W R (R + 1) Ls 0 w1 from by
    have h0 := HI.out
    rw [hR] at h0
    exact ⟨(hO.block _ (heap_lt h0.res) (by simp)).trans h0.res, (hO.block _ (heap_lt h0.box) (by simp)).trans h0.box, h0.only.trans hO⟩)
  have HO := Lib.hid ho
  have HX := Lib.hid hx
  have HRb := Lib.hid hR
  rw [hR]
  clear ho hx hO CC HI hR
  obtain ⟨Av, cv, rfl⟩ : ∃ Av cv, vc = .slice Av r cv := by
    obtain ⟨_, ⟨rfl, h0⟩ | ⟨g, cap, cur, rfl, _⟩⟩ := HO.out
    · obtain rfl : r = 0 := h0
      exact ⟨none, 0, rfl⟩
    · exact ⟨_, _, rfl⟩
  go_wp2_with fail
  go_loopw [9] (fun i wr => ∃ k : Nat, k ≤ r ∧ i = .int .i64 k ∧ Hid (RowI W R (R + 1) Ls k wr) ∧ Hid (wr.ownsRow W.heap.size 30 1 (.slice Av r cv) r xs)) (fun i _ => r - (intOf i).toNat)
  case atStart => exact ⟨0, Nat.zero_le _, rfl, H1, Lib.hid (owns_base HO.out (by rw [World.size_alloc, World.size_alloc]; omega))⟩
  case round =>
    clear H1 HO
    obtain ⟨k, hk, rfl, H1, HO⟩ := hrel
    by_cases hlt : k < r
    · obtain ⟨y, hy, hy1, hy2⟩ := HL.out k hlt
      obtain ⟨A, c, hxk⟩ := lenV_pos HX.out hy hy1
      obtain ⟨g, cap, hv⟩ : ∃ g cap, (Value.slice Av r cv) = .slice (some ⟨g, 0, none⟩) r cap := by
        obtain ⟨_, ⟨h0, h1⟩ | ⟨g, cap, cur, h, _⟩⟩ := HO.out
        · omega
        · exact ⟨_, _, h⟩
      cases hv
      have ck : wr.cell? ⟨g, k, none⟩ = some (.slice A y c) := by
        have := HO.out.cells (g := g) rfl k _ hxk
        rwa [Addr.add_lit, Nat.zero_add] at this
      have hb := H1.out.box
      have m1 := HMx.out k
      have m2 := HSq.out k
      have m3 := HSq.out (k + 1)
      have ht : Ls.take (k + 1) = Ls.take k ++ [(y : Int)] := by rw [List.take_add_one, hy]; rfl
      rw [ht, sqL_append] at m3
      obtain ⟨mo, hmo⟩ : ∃ mo, maxL (Ls.take k) = mo := ⟨_, rfl⟩
      obtain ⟨sq, hsq'⟩ : ∃ sq, sqL (Ls.take k) = sq := ⟨_, rfl⟩
      have H2 := Lib.hid (H1.out.step (by omega) (by have := HRb.out; omega) hy hmo hsq')
      rw [hmo, hsq'] at hb
      rw [hmo] at m1
      rw [hsq'] at m2 m3
      have m4 : (sq : Int) + (y : Int) * (y : Int) ≤ 9223372036854775807 := by
        have e : sqL [(y : Int)] = y * y := by simp [sqL]
        rw [e] at m3
        have : ((sq + y * y : Nat) : Int) ≤ 9223372036854775807 := by omega
        rwa [Int.natCast_add, Int.natCast_mul] at this
      have m5 : 0 ≤ (y : Int) * (y : Int) := Int.mul_nonneg (by omega) (by omega)
      have m6 : (y : Int) * (y : Int) ≤ 4096 * 4096 := Int.le_trans (Int.mul_le_mul_of_nonneg_right (show (y : Int) ≤ 4096 by omega) (by omega)) (Int.mul_le_mul_of_nonneg_left (by omega) (by omega))
      have cx0 := cell_of_heap (i := 0) hb rfl
      have cx1 := cell_of_heap (i := 1) hb rfl
      have cx2 := cell_of_heap (i := 2) hb rfl
      replace cx0 : wr.cell? ⟨R + 1, 0, none⟩ = some (.int .i64 mo) := cx0
      replace cx1 : wr.cell? ⟨R + 1, 1, none⟩ = some (.int .i64 (k : Nat)) := cx1
      replace cx2 : wr.cell? ⟨R + 1, 2, none⟩ = some (.int .i64 (sq : Nat)) := cx2
      have zx := fun i => frozen_of_heap (i := i) hb
      have hgX : g ≠ R + 1 := fun e => by
        obtain ⟨_, ⟨h0, _⟩ | ⟨g', cap', cur, h, _, hh, _⟩⟩ := HO.out
        · cases h0
        · cases h
          rw [e, hb] at hh
          cases hh
      have HO3 := Lib.hid (show ((((wr.setCell ⟨R + 1, 0, none⟩ (.int .i64 (max mo (y : Int)))).setCell ⟨R + 1, 1, none⟩ (.int .i64 ((k : Int) + 1))).setCell ⟨R + 1, 2, none⟩ (.int .i64 ((sq : Int) + (y : Int) * (y : Int))))).ownsRow W.heap.size 30 1 (.slice (some ⟨g, 0, none⟩) r cv) r xs from owns_three HO.out rfl hgX)
      clear hb hy hxk ht hmo hsq' m2 m3
      go_wp2_with fail
      have emx : (if mo < (y : Int) then (y : Int) else mo) = max mo (y : Int) := by split <;> omega
      rw [emx]
      exact ⟨⟨k + 1, by omega, by go_num, H2, HO3⟩, by simp [intOf]; omega⟩
    · obtain rfl : k = r := by omega
      have hb := H1.out.box
      have hr := H1.out.res
      rw [← HEq.out.1, ← HEq.out.2] at hb
      have cx0 := cell_of_heap (i := 0) hb rfl
      have cx1 := cell_of_heap (i := 1) hb rfl
      have cx2 := cell_of_heap (i := 2) hb rfl
      replace cx0 : wr.cell? ⟨R + 1, 0, none⟩ = some (.int .i64 la) := cx0
      replace cx1 : wr.cell? ⟨R + 1, 1, none⟩ = some (.int .i64 (k : Nat)) := cx1
      replace cx2 : wr.cell? ⟨R + 1, 2, none⟩ = some (.int .i64 (lc : Nat)) := cx2
      have zr := fun i => frozen_of_heap (i := i) hr
      have d0 := cell_of_heap (i := 0) hr rfl
      have d1 := cell_of_heap (i := 1) hr rfl
      have d2 := cell_of_heap (i := 2) hr rfl
      replace d0 : wr.cell? ⟨R, 0, none⟩ = some (.int .i64 0) := d0
      replace d1 : wr.cell? ⟨R, 1, none⟩ = some (.int .i64 0) := d1
      replace d2 : wr.cell? ⟨R, 2, none⟩ = some (.int .i64 0) := d2
      have k5 := heap_setCell_same _ _ 2 _ 39 (.int .i64 (lc : Nat)) (heap_setCell_same _ _ 1 _ 39 (.int .i64 (k : Nat)) (heap_setCell_same wr _ 0 _ 39 (.int .i64 la) hr))
      have f0 := cell_of_heap (i := 0) k5 rfl
      have f1 := cell_of_heap (i := 1) k5 rfl
      have f2 := cell_of_heap (i := 2) k5 rfl
      have HO3 := Lib.hid (H1.out.only.to ((((Only.refl [R] wr).setCell (g := R) (i := 0) (by simp) (.int .i64 la)).setCell (g := R) (i := 1) (by simp) (.int .i64 (k : Nat))).setCell (g := R) (i := 2) (by simp) (.int .i64 (lc : Nat))) fun i hi hlt => by simp at hi; have := HRb.out; omega)
      clear hb hr k5
      go_wp2_with fail
      obtain ⟨W5, hW5⟩ : ∃ W5, ((wr.setCell ⟨R, 0, none⟩ (.int .i64 la)).setCell ⟨R, 1, none⟩ (.int .i64 (k : Nat))).setCell ⟨R, 2, none⟩ (.int .i64 (lc : Nat)) = W5 := ⟨_, rfl⟩
      rw [hW5] at f0 f1 f2 HO3 ⊢
      replace f0 : W5.cell? ⟨R, 0, none⟩ = some (.int .i64 la) := f0
      replace f1 : W5.cell? ⟨R, 1, none⟩ = some (.int .i64 (k : Nat)) := f1
      replace f2 : W5.cell? ⟨R, 2, none⟩ = some (.int .i64 (lc : Nat)) := f2
      clear hW5 zr cx0 cx1 cx2 d0 d1 d2
      refine bodyPost_ret (v := .agg #[.int .i64 la, .int .i64 (k : Nat), .int .i64 (lc : Nat)]) (by simp [results, Try.results12, go_sem, f0, f1, f2]) rfl ⟨rfl, HO3.out⟩

end Go.Proofs.Ytipgbbhgmoehfaa
