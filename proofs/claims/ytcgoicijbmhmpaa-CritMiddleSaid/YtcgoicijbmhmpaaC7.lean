/-
  Where two averages cross: the walk of the program's search.
-/
import Derived.Test.YtcgoicijbmhmpaaC6
namespace Go.Proofs.Ytcgoicijbmhmpaa
open Go.RowKit Go.Fl Go.Deep Go.Shelf
attribute [local go_sem] Oper.semAt_some
attribute [local go_sem] run_store_float
attribute [local irreducible] avs pt sgs

theorem cell_putObj_ne {W : World} {D : Nat} {o : Obj} {p : Addr} (h : p.block ≠ D) : (W.putObj D o).cell? p = W.cell? p := by
  unfold World.cell?
  rw [World.putObj_heap_other h]

set_option maxRecDepth 100000 in
theorem cross_leave {W2 w : World} {D q : Nat} {b : Bool} {t0 t1 t2 t3 t4 t5 : Value} {rest : List Value} (hK : W2.heap[D]? = some (.deferred (some []))) (hD : w.heap.size + 6 < D) (hb : Below w.heap.size w W2)
    (g3 : W2.cell? ⟨w.heap.size + 1 + 1, 0, none⟩ = some (.float .f64 q)) (g4 : W2.cell? ⟨w.heap.size + 1 + 1 + 1, 0, none⟩ = some (.bool b)) (g5 : W2.cell? ⟨w.heap.size + 1 + 1 + 1 + 1, 0, none⟩ = some (.int .i64 0)) :
    LeavesInM Fence.wide 6 Try.prog Try.f48 ⟨t0 :: t1 :: t2 :: t3 :: t4 :: t5 :: .pointer (some ⟨w.heap.size + 1 + 1, 0, none⟩) :: .pointer (some ⟨w.heap.size + 1 + 1 + 1, 0, none⟩) :: .pointer (some ⟨w.heap.size + 1 + 1 + 1 + 1, 0, none⟩) :: rest⟩
      (fun e w' => e = .returned (.tuple #[.float .f64 q, .bool b, .int .i64 0]) ∧ Below w.heap.size w w') [] FrameMode.returning (W2.putObj D (.deferred none)) := by
  have c3 := (cell_putObj_ne (W := W2) (D := D) (o := .deferred none) (p := ⟨w.heap.size + 1 + 1, 0, none⟩) (by show w.heap.size + 1 + 1 ≠ D; omega)).trans g3
  have c4 := (cell_putObj_ne (W := W2) (D := D) (o := .deferred none) (p := ⟨w.heap.size + 1 + 1 + 1, 0, none⟩) (by show w.heap.size + 1 + 1 + 1 ≠ D; omega)).trans g4
  have c5 := (cell_putObj_ne (W := W2) (D := D) (o := .deferred none) (p := ⟨w.heap.size + 1 + 1 + 1 + 1, 0, none⟩) (by show w.heap.size + 1 + 1 + 1 + 1 ≠ D; omega)).trans g5
  have hbel : Below w.heap.size w (W2.putObj D (.deferred none)) := hb.trans (belowK_b (w := w) (Nat.le_refl _) W2 D _ _ (by omega) hK rfl rfl)
  generalize W2.putObj D (.deferred none) = W3 at *
  refine ⟨_, ?_, rfl, hbel⟩
  simp [results, Try.f48, go_sem, c3, c4, c5]

set_option maxRecDepth 100000 in
set_option maxHeartbeats 2000000 in
theorem Cross_in (A B : Option Addr) (n c m d s : Nat) (f g : Nat → Nat) (w : World) (h : ListIn w A n f) (hg : ListIn w B m g) (hl : listB n f = true) (hl2 : listB m g = true) (h1 : 1 ≤ s) (h2 : s ≤ 1000)
    (j0 : Nat) (hj : j0 ≤ s + 1) (hb : ∀ i, i < j0 → sgs f g n m s i = sgs f g n m s 0) (ha : j0 ≤ s → sgs f g n m s j0 ≠ sgs f g n m s 0) :
    CallsIn Fence.wide 6 Try.prog 48 #[.slice A n c, .slice B m d, .int .i64 (s : Nat)] w fun e w' => e = .returned (.tuple #[.float .f64 (if j0 ≤ s then pt s j0 else 0), .bool (decide (j0 ≤ s)), .int .i64 0]) ∧ Below w.heap.size w w' := by
  obtain ⟨q0, hq0⟩ : ∃ q0, q0 = (if j0 ≤ s then pt s j0 else 0) := ⟨_, rfl⟩
  obtain ⟨b0, hb0⟩ : ∃ b0, b0 = decide (j0 ≤ s) := ⟨_, rfl⟩
  rw [← hq0, ← hb0]
  have HQ := Lib.hid hq0
  have HD := Lib.hid hb0
  clear hq0 hb0
  have hs : stepsB (s : Int) = true := by unfold stepsB; simp; omega
  have CL := Lib.hid (fun W (hW : ListIn W A n f) => cisList_any A n c f W hW)
  rw [hl] at CL
  have CM := Lib.hid (fun W (hW : ListIn W B m g) => cisList_any B m d g W hW)
  rw [hl2] at CM
  have CS := Lib.hid (fun W => isSteps_any (s : Nat) W)
  rw [hs] at CS
  have HA := Lib.hid h
  have HG := Lib.hid hg
  have HL := Lib.hid hl
  have HL2 := Lib.hid hl2
  have HB := Lib.hid hb
  have HJ := Lib.hid ha
  clear h hg hl hl2 hs hb ha
  refine callsIn_of_wp_marks Try.func48 rfl trivial ?_ rfl
  simp only [Try.ntmps48, List.size_toArray, List.length_cons, List.length_nil, Nat.reduceAdd, Nat.reduceSub, Array.replicate_succ, Array.replicate_zero, List.push_toArray, List.append_toArray, List.nil_append, List.cons_append]
  have b5 : Below w.heap.size w (((((w.alloc (.cells #[.slice A n c] 24)).alloc (.cells #[.slice B m d] 24)).alloc (.cells #[.float .f64 0] 22)).alloc (.cells #[.bool false] 4)).alloc (.cells #[.int .i64 0] 25)) :=
    (((((Below.refl _ w).alloc (Nat.le_refl _) _).alloc (by simp) _).alloc (by simp <;> omega) _).alloc (by simp <;> omega) _).alloc (by simp <;> omega) _
  have B5 := Lib.hid b5
  gi_wp2_with fail
  refine ⟨trivial, (callsIn_wide.2 (CL.out _ (HA.out.below b5))).mono ?_⟩
  rintro e w' ⟨rfl, rfl⟩
  gi_wp2_with fail
  refine ⟨trivial, (callsIn_wide.2 (CM.out _ (HG.out.below B5.out))).mono ?_⟩
  rintro e w' ⟨rfl, rfl⟩
  gi_wp2_with fail
  refine ⟨trivial, (callsIn_wide.2 (CS.out _)).mono ?_⟩
  rintro e w' ⟨rfl, rfl⟩
  gi_wp2_with fail
  refine ⟨trivial, (callsIn_wide.2 (sgn0_any w.heap.size (w.heap.size + 1) A B n c m d s f g _ (by simp [go_sem]) (by simp [go_sem]) (HA.out.below (B5.out.alloc (by simp <;> omega) _)) (HG.out.below (B5.out.alloc (by simp <;> omega) _)) HL.out HL2.out h1 h2 (by simp <;> omega) (by simp <;> omega))).mono ?_⟩
  rintro e w1 ⟨rfl, hb1⟩
  have c1 : w1.cell? ⟨w.heap.size, 0, none⟩ = some (.slice A n c) := (hb1.cell (p := ⟨w.heap.size, 0, none⟩) (by simp <;> omega)).trans (by simp [go_sem])
  have c2 : w1.cell? ⟨w.heap.size + 1, 0, none⟩ = some (.slice B m d) := (hb1.cell (p := ⟨w.heap.size + 1, 0, none⟩) (by simp <;> omega)).trans (by simp [go_sem])
  have c3 : w1.cell? ⟨w.heap.size + 1 + 1, 0, none⟩ = some (.float .f64 0) := (hb1.cell (p := ⟨w.heap.size + 1 + 1, 0, none⟩) (by simp <;> omega)).trans (by simp [go_sem])
  have c4 : w1.cell? ⟨w.heap.size + 1 + 1 + 1, 0, none⟩ = some (.bool false) := (hb1.cell (p := ⟨w.heap.size + 1 + 1 + 1, 0, none⟩) (by simp <;> omega)).trans (by simp [go_sem])
  have c5 : w1.cell? ⟨w.heap.size + 1 + 1 + 1 + 1, 0, none⟩ = some (.int .i64 0) := (hb1.cell (p := ⟨w.heap.size + 1 + 1 + 1 + 1, 0, none⟩) (by simp <;> omega)).trans (by simp [go_sem])
  have f3 : w1.frozen? ⟨w.heap.size + 1 + 1, 0, none⟩ = false := (hb1.frozen (p := ⟨w.heap.size + 1 + 1, 0, none⟩) (by simp <;> omega)).trans (by simp [go_sem])
  have f4 : w1.frozen? ⟨w.heap.size + 1 + 1 + 1, 0, none⟩ = false := (hb1.frozen (p := ⟨w.heap.size + 1 + 1 + 1, 0, none⟩) (by simp <;> omega)).trans (by simp [go_sem])
  have f5 : w1.frozen? ⟨w.heap.size + 1 + 1 + 1 + 1, 0, none⟩ = false := (hb1.frozen (p := ⟨w.heap.size + 1 + 1 + 1 + 1, 0, none⟩) (by simp <;> omega)).trans (by simp [go_sem])
  have c6 : w1.cell? ⟨w.heap.size + 1 + 1 + 1 + 1 + 1, 0, none⟩ = some (.func (.func 80) #[] #[.pointer (some ⟨w.heap.size, 0, none⟩), .pointer (some ⟨w.heap.size + 1, 0, none⟩)]) := (hb1.cell (p := ⟨w.heap.size + 1 + 1 + 1 + 1 + 1, 0, none⟩) (by simp <;> omega)).trans (by simp [go_sem])
  have hbw : Below w.heap.size w w1 := (B5.out.alloc (by simp <;> omega) _).trans (hb1.mono (by simp <;> omega))
  have hsz : w.heap.size + 6 ≤ w1.heap.size := by have := hb1.size; simp at this; omega
  have L1 := Lib.hid (HA.out.below hbw)
  have L2 := Lib.hid (HG.out.below hbw)
  clear hb1 HA HG b5 B5 CL CM CS
  gi_wp2_with fail
  refine ⟨trivial, (callsIn_wide.2 (points_any _ _)).mono ?_⟩
  rintro e w' ⟨rfl, rfl⟩
  gi_wp2
  refine wpIn_rangeFunc_ownF rfl (by omega) (gf := 89) (lb := #[.pointer (some ⟨w1.heap.size + 1, 0, none⟩)]) rfl trivial (enters_of Try.func89 (by kernel_rfl) rfl)
    (encs := fun x : Nat => #[.float .f64 (pt s x)]) (Kp := BoxKeep (w1.heap.size + 1)) (S := fun ys => ys = List.range (s + 1)) (Sp := fun pre => ∃ k, k ≤ s + 1 ∧ pre = List.range k) (N := s + 1)
    (w0 := (w1.alloc (.cells #[.int .i64 (sgs f g n m s 0)] 3)).alloc (.cells #[.int .i64 (s : Nat)] 3))
    ?seq boxKeep_t (boxKeep_b (by simp)) (Below.refl _ _) (fun _ => rfl)
    (fun pre W => (W.cell? ⟨w1.heap.size, 0, none⟩ = some (.int .i64 (sgs f g n m s 0)) ∧ W.cell? ⟨w1.heap.size + 1, 0, none⟩ = some (.int .i64 (s : Nat)) ∧ (pre = List.range pre.length → ∀ i, i < pre.length → sgs f g n m s i = sgs f g n m s 0)) ∧ Below w1.heap.size w1 W)
    (fun c pre W => (c = .ret ∧ (∃ q, W.cell? ⟨w.heap.size + 1 + 1, 0, none⟩ = some (.float .f64 q) ∧ W.cell? ⟨w.heap.size + 1 + 1 + 1, 0, none⟩ = some (.bool true) ∧ W.cell? ⟨w.heap.size + 1 + 1 + 1 + 1, 0, none⟩ = some (.int .i64 0) ∧
      (pre = List.range pre.length → ∃ k, pre.length = k + 1 ∧ (∀ i, i < k → sgs f g n m s i = sgs f g n m s 0) ∧ sgs f g n m s k ≠ sgs f g n m s 0 ∧ q = pt s k))) ∧ Below w.heap.size w W) ?own ?ownx ?start
    (fun x => { tmps := #[Value.slice A n c, Value.slice B m d, Value.int IntKind.i64 (s : Nat), Value.pointer (some ⟨w.heap.size, 0, none⟩), Value.pointer (some ⟨w.heap.size + 1, 0, none⟩), undef, Value.pointer (some ⟨w.heap.size + 1 + 1, 0, none⟩), Value.pointer (some ⟨w.heap.size + 1 + 1 + 1, 0, none⟩), Value.pointer (some ⟨w.heap.size + 1 + 1 + 1 + 1, 0, none⟩), Value.pointer (some ⟨w.heap.size + 1 + 1 + 1 + 1 + 1, 0, none⟩), Value.pointer (some ⟨w1.heap.size, 0, none⟩), Value.float .f64 (pt s x), Value.slice A n c, Value.bool true, Value.bool false, Value.bool false, Value.slice B m d, Value.bool true, Value.bool false, Value.bool false, Value.bool false, Value.int IntKind.i64 (s : Nat), Value.bool true, Value.bool false, Value.bool false, Value.func (Fn.func 80) #[] #[Value.pointer (some ⟨w.heap.size, 0, none⟩), Value.pointer (some ⟨w.heap.size + 1, 0, none⟩)], Value.func (Fn.func 80) #[] #[Value.pointer (some ⟨w.heap.size, 0, none⟩), Value.pointer (some ⟨w.heap.size + 1, 0, none⟩)], Value.int IntKind.i64 (sgs f g n m s 0), Value.int IntKind.i64 (s : Nat), Value.func (Fn.func 89) #[] #[Value.pointer (some ⟨w1.heap.size + 1, 0, none⟩)], Value.float .f64 (pt s x), undef, undef, undef, undef, undef, undef], defers := [] }) ?assign ?body ?done ?stop
  case seq =>
    intro l J Jx W hW hJ _ hY hJ0
    exact (points_in Fence.wide (6 - 1) trivial rfl (by omega) l (w1.heap.size + 1) s h1 h2 J Jx hY W ((hW.cell (p := ⟨w1.heap.size + 1, 0, none⟩) (by simp)).trans (by simp [go_sem])) hJ0).mono fun e W' h => h
  case own =>
    refine OwnFrom.and (Own.from (fun s A C row hs hg hr => ?_) _) (ownFrom_below (Nat.le_refl _) (by simp; omega))
    obtain ⟨k1, k2, k3⟩ := hs
    exact ⟨cell_kept k1 hg hr, cell_kept k2 hg hr, k3⟩
  case ownx =>
    intro cc
    refine OwnFrom.and (Own.from (fun s A C row hs hg hr => ?_) _) (ownFrom_below (Nat.le_refl _) (by simp; omega))
    obtain ⟨k0, q, k1, k2, k3, k4⟩ := hs
    exact ⟨k0, q, cell_kept k1 hg hr, cell_kept k2 hg hr, cell_kept k3 hg hr, k4⟩
  case start =>
    exact ⟨⟨by simp [go_sem], by simp [go_sem], fun _ i hi => by simp at hi⟩, ((Below.refl _ w1).alloc (Nat.le_refl _) _).alloc (by simp) _⟩
  case assign =>
    intro l x W K hK
    gi_wp2
    exact hK
  case body =>
    rintro l pre x W ⟨⟨k1, k2, k3⟩, hB⟩ hlt
    have d6 := (hB.cell (p := ⟨w.heap.size + 1 + 1 + 1 + 1 + 1, 0, none⟩) (by show w.heap.size + 1 + 1 + 1 + 1 + 1 < _; omega)).trans c6
    have hNW : w1.heap.size + 1 < W.heap.size := (cell_lt k2).2
    have hNW1 : w1.heap.size < W.heap.size := (cell_lt k1).2
    have f80 : Fence.wide.fn 80 := trivial
    have d1 := (hB.cell (p := ⟨w.heap.size, 0, none⟩) (by show w.heap.size < _; omega)).trans c1
    have d2 := (hB.cell (p := ⟨w.heap.size + 1, 0, none⟩) (by show w.heap.size + 1 < _; omega)).trans c2
    have hmix : Try.prog.follows .mixedOrders = true := by kernel_rfl
    have hBW := Below.refl W.heap.size W
    have CA := Lib.hid (fun W1 (hW : Below W.heap.size W W1) => (sgnp_any w.heap.size (w.heap.size + 1) A B n c m d s x f g W1 ((hW.cell (p := ⟨w.heap.size, 0, none⟩) (by show w.heap.size < _; omega)).trans d1) ((hW.cell (p := ⟨w.heap.size + 1, 0, none⟩) (by show w.heap.size + 1 < _; omega)).trans d2)
      ((L1.out.below hB).below hW) ((L2.out.below hB).below hW) HL.out HL2.out h1 h2 (by have := hW.size; omega) (by have := hW.size; omega)).mono (R' := fun e W3 => e = .returned (.int .i64 (sgs f g n m s x)) ∧ Below W.heap.size W W3) (fun _ _ h => ⟨h.1, hW.trans (h.2.mono hW.size)⟩))
    have K3 := Lib.hid k3
    clear k3 d1 d2
    by_cases hcmp : sgs f g n m s x = sgs f g n m s 0
    · have HC := Lib.hid hcmp
      have hx : (sgs f g n m s x != sgs f g n m s 0) = false := by rw [hcmp]; simp
      clear hcmp
      gi_wp2
      gi_region_with_o (gi_at_call 80; refine (CallsIn.inRound l (callsIn_wide.2 (CA.out _ (by first | exact hBW | exact hBW.drew)))).mono ?_; rintro e W3 ⟨rfl, hb3⟩; have m1 := (hb3.cell (p := ⟨w1.heap.size, 0, none⟩) hNW1).trans k1)
      all_goals
        gi_wp2
        refine ⟨keeps_below hb3, hb3.cell (p := ⟨w1.heap.size + 1, 0, none⟩) hNW, ⟨m1, (hb3.cell (p := ⟨w1.heap.size + 1, 0, none⟩) hNW).trans k2, fun he => ?_⟩, hB.trans (hb3.mono hB.size)⟩
        obtain ⟨rfl, e1⟩ := range_snoc he
        intro i hi
        rw [List.length_append, List.length_singleton] at hi
        by_cases hil : i < pre.length
        · exact K3.out e1 i hil
        · rw [show i = pre.length by omega]
          exact HC.out
    · have HC := Lib.hid hcmp
      have hx : (sgs f g n m s x != sgs f g n m s 0) = true := by simp [hcmp]
      clear hcmp
      gi_wp2
      gi_region_with_o (gi_at_call 80; refine (CallsIn.inRound l (callsIn_wide.2 (CA.out _ (by first | exact hBW | exact hBW.drew)))).mono ?_; rintro e W3 ⟨rfl, hb3⟩; have m1 := (hb3.cell (p := ⟨w1.heap.size, 0, none⟩) hNW1).trans k1)
      all_goals
        have p3 := (hb3.cell (p := ⟨w.heap.size + 1 + 1, 0, none⟩) (by show w.heap.size + 1 + 1 < _; omega)).trans ((hB.cell (p := ⟨w.heap.size + 1 + 1, 0, none⟩) (by show w.heap.size + 1 + 1 < _; omega)).trans c3)
        have q3 := (hb3.frozen (p := ⟨w.heap.size + 1 + 1, 0, none⟩) (by show w.heap.size + 1 + 1 < _; omega)).trans ((hB.frozen (p := ⟨w.heap.size + 1 + 1, 0, none⟩) (by show w.heap.size + 1 + 1 < _; omega)).trans f3)
        have p4 := (hb3.cell (p := ⟨w.heap.size + 1 + 1 + 1, 0, none⟩) (by show w.heap.size + 1 + 1 + 1 < _; omega)).trans ((hB.cell (p := ⟨w.heap.size + 1 + 1 + 1, 0, none⟩) (by show w.heap.size + 1 + 1 + 1 < _; omega)).trans c4)
        have q4 := (hb3.frozen (p := ⟨w.heap.size + 1 + 1 + 1, 0, none⟩) (by show w.heap.size + 1 + 1 + 1 < _; omega)).trans ((hB.frozen (p := ⟨w.heap.size + 1 + 1 + 1, 0, none⟩) (by show w.heap.size + 1 + 1 + 1 < _; omega)).trans f4)
        have p5 := (hb3.cell (p := ⟨w.heap.size + 1 + 1 + 1 + 1, 0, none⟩) (by show w.heap.size + 1 + 1 + 1 + 1 < _; omega)).trans ((hB.cell (p := ⟨w.heap.size + 1 + 1 + 1 + 1, 0, none⟩) (by show w.heap.size + 1 + 1 + 1 + 1 < _; omega)).trans c5)
        have q5 := (hb3.frozen (p := ⟨w.heap.size + 1 + 1 + 1 + 1, 0, none⟩) (by show w.heap.size + 1 + 1 + 1 + 1 < _; omega)).trans ((hB.frozen (p := ⟨w.heap.size + 1 + 1 + 1 + 1, 0, none⟩) (by show w.heap.size + 1 + 1 + 1 + 1 < _; omega)).trans f5)
        gi_wp2
        refine ⟨(keeps_below hb3).trans (((KeepsOthers.setCell _ _ _).trans (KeepsOthers.setCell _ _ _)).trans (KeepsOthers.setCell _ _ _)), ⟨rfl, pt s x, by simp [go_sem, p3], by simp [go_sem, p4], by simp [go_sem, p5], fun he => ?_⟩,
          ((((hbw.trans (hB.mono hbw.size)).trans (hb3.mono (Nat.le_trans hbw.size hB.size))).setCell (p := ⟨w.heap.size + 1 + 1, 0, none⟩) (by show w.heap.size ≤ w.heap.size + 1 + 1; omega) _).setCell (p := ⟨w.heap.size + 1 + 1 + 1, 0, none⟩) (by show w.heap.size ≤ w.heap.size + 1 + 1 + 1; omega) _).setCell (p := ⟨w.heap.size + 1 + 1 + 1 + 1, 0, none⟩) (by show w.heap.size ≤ w.heap.size + 1 + 1 + 1 + 1; omega) _⟩
        obtain ⟨rfl, e1⟩ := range_snoc he
        exact ⟨pre.length, by simp, K3.out e1, HC.out, rfl⟩
  case done =>
    rintro D ys W hD rfl ⟨⟨k1, k2, k3⟩, hB⟩ hK
    have k3' := k3 (by rw [List.length_range])
    rw [List.length_range] at k3'
    have hj1 : j0 = s + 1 := by
      rcases Nat.lt_or_ge j0 (s + 1) with h | h
      · exact absurd (k3' j0 h) (HJ.out (by omega))
      · omega
    have HQ0 : Hid (q0 = 0) := Lib.hid (by rw [HQ.out, if_neg (by omega)])
    have HD0 : Hid (b0 = false) := Lib.hid (by rw [HD.out]; simp; omega)
    clear k3 k3' hj1
    have p3 := (hB.cell (p := ⟨w.heap.size + 1 + 1, 0, none⟩) (by show w.heap.size + 1 + 1 < _; omega)).trans c3
    have q3 := (hB.frozen (p := ⟨w.heap.size + 1 + 1, 0, none⟩) (by show w.heap.size + 1 + 1 < _; omega)).trans f3
    have p4 := (hB.cell (p := ⟨w.heap.size + 1 + 1 + 1, 0, none⟩) (by show w.heap.size + 1 + 1 + 1 < _; omega)).trans c4
    have q4 := (hB.frozen (p := ⟨w.heap.size + 1 + 1 + 1, 0, none⟩) (by show w.heap.size + 1 + 1 + 1 < _; omega)).trans f4
    have p5 := (hB.cell (p := ⟨w.heap.size + 1 + 1 + 1 + 1, 0, none⟩) (by show w.heap.size + 1 + 1 + 1 + 1 < _; omega)).trans c5
    have q5 := (hB.frozen (p := ⟨w.heap.size + 1 + 1 + 1 + 1, 0, none⟩) (by show w.heap.size + 1 + 1 + 1 + 1 < _; omega)).trans f5
    gi_wp2
    refine ⟨by simp, .inl ⟨_, _, rfl, run_takeDeferred ((((KeepsOthers.setCell _ _ _).trans (KeepsOthers.setCell _ _ _)).trans (KeepsOthers.setCell _ _ _)).same D _ hK rfl), ?_⟩⟩
    have hDw : w.heap.size + 6 < D := by simp at hD; omega
    obtain ⟨W2, hW2⟩ : ∃ W2, W2 = ((W.setCell ⟨w.heap.size + 1 + 1, 0, none⟩ (.float .f64 0)).setCell ⟨w.heap.size + 1 + 1 + 1, 0, none⟩ (.bool false)).setCell ⟨w.heap.size + 1 + 1 + 1 + 1, 0, none⟩ (.int .i64 0) := ⟨_, rfl⟩
    have g3 : W2.cell? ⟨w.heap.size + 1 + 1, 0, none⟩ = some (.float .f64 0) := by rw [hW2]; simp [go_sem, p3]
    have g4 : W2.cell? ⟨w.heap.size + 1 + 1 + 1, 0, none⟩ = some (.bool false) := by rw [hW2]; simp [go_sem, p4]
    have g5 : W2.cell? ⟨w.heap.size + 1 + 1 + 1 + 1, 0, none⟩ = some (.int .i64 0) := by rw [hW2]; simp [go_sem, p5]
    have hb2 : Below w.heap.size w W2 := by
      rw [hW2]
      exact (((hbw.trans (hB.mono hbw.size)).setCell (p := ⟨w.heap.size + 1 + 1, 0, none⟩) (by show w.heap.size ≤ w.heap.size + 1 + 1; omega) _).setCell (p := ⟨w.heap.size + 1 + 1 + 1, 0, none⟩) (by show w.heap.size ≤ w.heap.size + 1 + 1 + 1; omega) _).setCell (p := ⟨w.heap.size + 1 + 1 + 1 + 1, 0, none⟩) (by show w.heap.size ≤ w.heap.size + 1 + 1 + 1 + 1; omega) _
    rw [← hW2]
    have hK2 : W2.heap[D]? = some (.deferred (some [])) := by rw [hW2]; exact (((KeepsOthers.setCell _ _ _).trans (KeepsOthers.setCell _ _ _)).trans (KeepsOthers.setCell _ _ _)).same D _ hK rfl
    rw [HQ0.out, HD0.out]
    exact cross_leave hK2 hDw hb2 g3 g4 g5
  case stop =>
    rintro D cc pre W hD ⟨k, hk, rfl⟩ ⟨⟨rfl, q, k1, k2, k3, k4⟩, hB⟩ hK
    obtain ⟨k', e1, e2, e3, rfl⟩ := k4 (by rw [List.length_range])
    rw [List.length_range] at e1
    have hj1 : j0 = k' := by
      rcases Nat.lt_trichotomy j0 k' with h | h | h
      · exact absurd (e2 j0 h) (HJ.out (by omega))
      · exact h
      · exact absurd (HB.out k' h) e3
    have HQ0 : Hid (q0 = pt s k') := Lib.hid (by rw [HQ.out, if_pos (by omega), hj1])
    have HD0 : Hid (b0 = true) := Lib.hid (by rw [HD.out]; simp; omega)
    have hDw : w.heap.size + 6 < D := by simp at hD; omega
    clear k4 e2 e3 hj1
    gi_wp2
    refine ⟨by simp, .inl ⟨_, _, rfl, run_takeDeferred hK, ?_⟩⟩
    rw [HQ0.out, HD0.out]
    exact cross_leave hK hDw hB k1 k2 k3
end Go.Proofs.Ytcgoicijbmhmpaa
