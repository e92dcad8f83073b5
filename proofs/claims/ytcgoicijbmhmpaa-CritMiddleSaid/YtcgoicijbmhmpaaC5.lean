/-
  Where an average is greatest: the plain law, and the walk of the program.
-/
import Derived.Test.YtcgoicijbmhmpaaC4
import Derived.Laws.EntriesVeiled
namespace Go.Proofs.Ytcgoicijbmhmpaa
open Go.RowKit Go.Fl Go.Deep Go.Shelf
attribute [local go_sem] Oper.semAt_some
attribute [local go_sem] run_store_float

theorem pt_zero_all : (List.range 1000).all (fun s => pt (s + 1) 0 == 0) = true := by decide +kernel
theorem pt_zero {s : Nat} (h1 : 1 ≤ s) (h2 : s ≤ 1000) : pt s 0 = 0 := by
  have h := List.all_eq_true.1 pt_zero_all (s - 1) (List.mem_range.2 (by omega))
  rw [show s - 1 + 1 = s by omega] at h
  simpa using h

/-- The first place up to i at which numbers are greatest. -/
def gtop (A : Nat → Nat) : Nat → Nat
  | 0 => 0
  | i + 1 => if fgt (A (i + 1)) (A (gtop A i)) then i + 1 else gtop A i
theorem gtop_le (A : Nat → Nat) (i : Nat) : gtop A i ≤ i := by
  induction i with
  | zero => exact Nat.le_refl _
  | succ i ih => unfold gtop; split <;> omega
def top (A : Nat → Nat) (k : Nat) : Nat := gtop A (k - 1)
theorem top_zero (A : Nat → Nat) : top A 0 = 0 := rfl
theorem top_step {A : Nat → Nat} (h : fgt (A 0) (A 0) = false) (k : Nat) : top A (k + 1) = if fgt (A k) (A (top A k)) then k else top A k := by
  unfold top
  cases k with
  | zero => show gtop A 0 = if fgt (A 0) (A (gtop A 0)) then 0 else gtop A 0; unfold gtop; rw [h]; rfl
  | succ k => rfl

theorem fgt_self {x : Nat} (h : isFin x) : fgt x x = false := by
  cases hc : fgt x x with
  | false => rfl
  | true => have := (fgt_iff h h).1 hc; grind

theorem at_any (Bv : Nat) (A : Option Addr) (n c p : Nat) (f : Nat → Nat) (W : World) (hB : W.cell? ⟨Bv, 0, none⟩ = some (.slice A n c)) (h : ListIn W A n f) (hp : p < 2 ^ 64) (hl : listB n f = true) (hpr : prob p = true) :
    Calls Try.prog 75 #[.float .f64 p, .pointer (some ⟨Bv, 0, none⟩)] W fun e w' => e = .returned (.float .f64 (avg f (n - 1) (absb p))) ∧ Below W.heap.size W w' := by
  have CA := Lib.hid (cavg_any A n c p f W h hp hl hpr)
  clear h hl hpr
  go_enter Try.func75, Try.ntmps75
  go_wp2_with (go_at_call 76; refine CA.out.mono ?_; rintro e w' ⟨rfl, hb⟩)
  go_ret
  exact ⟨rfl, hb⟩

theorem keeps_below {W W' : World} (h : Below W.heap.size W W') : KeepsOthers W W' :=
  ⟨h.size, fun k o hk _ => by
    have hlt : k < W.heap.size := (Array.getElem?_eq_some_iff.1 hk).1
    rw [h.block k hlt]; exact hk⟩

/-- The averages at the points of a grid. -/
def avs (f : Nat → Nat) (n s i : Nat) : Nat := avg f (n - 1) (absb (pt s i))
theorem atp_any (Bv : Nat) (A : Option Addr) (n c s x : Nat) (f : Nat → Nat) (W : World) (hB : W.cell? ⟨Bv, 0, none⟩ = some (.slice A n c)) (h : ListIn W A n f) (hl : listB n f = true) (h1 : 1 ≤ s) (h2 : s ≤ 1000) :
    Calls Try.prog 75 #[.float .f64 (pt s x), .pointer (some ⟨Bv, 0, none⟩)] W fun e w' => e = .returned (.float .f64 (avs f n s x)) ∧ Below W.heap.size W w' :=
  at_any Bv A n c (pt s x) f W hB h (pt_prob h1 h2).2 hl (pt_prob h1 h2).1
theorem at0_any (Bv : Nat) (A : Option Addr) (n c s : Nat) (f : Nat → Nat) (W : World) (hB : W.cell? ⟨Bv, 0, none⟩ = some (.slice A n c)) (h : ListIn W A n f) (hl : listB n f = true) (h1 : 1 ≤ s) (h2 : s ≤ 1000) :
    Calls Try.prog 75 #[.float .f64 0, .pointer (some ⟨Bv, 0, none⟩)] W fun e w' => e = .returned (.float .f64 (avs f n s 0)) ∧ Below W.heap.size W w' := by
  have h0 := atp_any Bv A n c s 0 f W hB h hl h1 h2
  rw [pt_zero h1 h2] at h0
  exact h0
attribute [local irreducible] avs pt gtop
theorem range_snoc {pre : List Nat} {x : Nat} (h : pre ++ [x] = List.range (pre ++ [x]).length) : x = pre.length ∧ pre = List.range pre.length := by
  rw [List.length_append, List.length_singleton, List.range_succ] at h
  obtain ⟨e1, e2⟩ := List.append_inj h (by simp)
  exact ⟨by simpa using e2, e1⟩

set_option maxRecDepth 100000 in
set_option maxHeartbeats 2000000 in
theorem Peak_in (A : Option Addr) (n c s : Nat) (f : Nat → Nat) (w : World) (h : ListIn w A n f) (hl : listB n f = true) (h1 : 1 ≤ s) (h2 : s ≤ 1000) (hA : isFin (avs f n s 0)) :
    CallsIn Fence.wide 6 Try.prog 46 #[.slice A n c, .int .i64 (s : Nat)] w fun e w' => e = .returned (.tuple #[.float .f64 (pt s (gtop (avs f n s) s)), .int .i64 0]) ∧ Below w.heap.size w w' := by
  have hs : stepsB (s : Int) = true := by unfold stepsB; simp; omega
  have CL := Lib.hid (fun W (hW : ListIn W A n f) => cisList_any A n c f W hW)
  rw [hl] at CL
  have CS := Lib.hid (fun W => isSteps_any (s : Nat) W)
  rw [hs] at CS
  have HA := Lib.hid h
  have HL := Lib.hid hl
  clear h hl hs
  refine callsIn_of_wp_marks Try.func46 rfl trivial ?_ rfl
  simp only [Try.ntmps46, List.size_toArray, List.length_cons, List.length_nil, Nat.reduceAdd, Nat.reduceSub, Array.replicate_succ, Array.replicate_zero, List.push_toArray, List.append_toArray, List.nil_append, List.cons_append]
  gi_wp2_with fail
  refine ⟨trivial, (callsIn_wide.2 (CL.out _ (HA.out.below ((Below.refl _ w).alloc (Nat.le_refl _) _)))).mono ?_⟩
  rintro e w' ⟨rfl, rfl⟩
  gi_wp2_with fail
  refine ⟨trivial, (callsIn_wide.2 (CS.out _)).mono ?_⟩
  rintro e w' ⟨rfl, rfl⟩
  gi_wp2_with fail
  refine ⟨trivial, (callsIn_wide.2 (at0_any w.heap.size A n c s f _ (by simp [go_sem]) (HA.out.below (((Below.refl _ w).alloc (Nat.le_refl _) _).alloc (by simp) _)) HL.out h1 h2)).mono ?_⟩
  rintro e w1 ⟨rfl, hb1⟩
  have c1 : w1.cell? ⟨w.heap.size, 0, none⟩ = some (.slice A n c) := (hb1.cell (p := ⟨w.heap.size, 0, none⟩) (by simp; omega)).trans (by simp [go_sem])
  have c2 : w1.cell? ⟨w.heap.size + 1, 0, none⟩ = some (.func (.func 75) #[] #[.pointer (some ⟨w.heap.size, 0, none⟩)]) := (hb1.cell (p := ⟨w.heap.size + 1, 0, none⟩) (by simp)).trans (by simp [go_sem])
  have hbw : Below w.heap.size w w1 := (((Below.refl _ w).alloc (Nat.le_refl _) _).alloc (by simp) _).trans (hb1.mono (by simp; omega))
  have hsz : w.heap.size + 2 ≤ w1.heap.size := by have := hb1.size; simpa using this
  have L1 := Lib.hid (HA.out.below hbw)
  clear hb1 HA
  gi_wp2_with fail
  refine ⟨trivial, (callsIn_wide.2 (points_any _ _)).mono ?_⟩
  rintro e w' ⟨rfl, rfl⟩
  gi_wp2
  refine wpIn_rangeFunc_ownF rfl (by omega) (gf := 89) (lb := #[.pointer (some ⟨w1.heap.size + 1 + 1, 0, none⟩)]) rfl trivial (enters_of Try.func89 (by kernel_rfl) rfl)
    (encs := fun x : Nat => #[.float .f64 (pt s x)]) (Kp := BoxKeep (w1.heap.size + 1 + 1)) (S := fun ys => ys = List.range (s + 1)) (Sp := fun pre => ∃ k, k ≤ s + 1 ∧ pre = List.range k) (N := s + 1)
    (w0 := ((w1.alloc (.cells #[.float .f64 0] 22)).alloc (.cells #[.float .f64 (avs f n s 0)] 22)).alloc (.cells #[.int .i64 (s : Nat)] 3))
    ?seq boxKeep_t (boxKeep_b (by simp)) (Below.refl _ _) (fun _ => rfl)
    (fun pre W => (∃ b g, W.cell? ⟨w1.heap.size, 0, none⟩ = some (.float .f64 b) ∧ W.frozen? ⟨w1.heap.size, 0, none⟩ = false ∧ W.cell? ⟨w1.heap.size + 1, 0, none⟩ = some (.float .f64 g) ∧ W.frozen? ⟨w1.heap.size + 1, 0, none⟩ = false ∧
      W.cell? ⟨w1.heap.size + 1 + 1, 0, none⟩ = some (.int .i64 (s : Nat)) ∧ (pre = List.range pre.length → b = pt s (top (avs f n s) pre.length) ∧ g = avs f n s (top (avs f n s) pre.length))) ∧ Below w1.heap.size w1 W)
    (fun _ _ _ => False) ?own ?ownx ?start
    (fun x => { tmps := #[Value.slice A n c, Value.int IntKind.i64 (s : Nat), Value.pointer (some ⟨w.heap.size, 0, none⟩), undef, Value.float FloatKind.f64 0, Value.int IntKind.i64 0, Value.pointer (some ⟨w.heap.size + 1, 0, none⟩), Value.pointer (some ⟨w1.heap.size, 0, none⟩), Value.pointer (some ⟨w1.heap.size + 1, 0, none⟩), Value.float .f64 (pt s x), undef, Value.slice A n c, Value.bool true, Value.bool false, Value.bool false, Value.int IntKind.i64 (s : Nat), Value.bool true, Value.bool false, Value.bool false, Value.func (Fn.func 75) #[] #[Value.pointer (some ⟨w.heap.size, 0, none⟩)], Value.func (Fn.func 75) #[] #[Value.pointer (some ⟨w.heap.size, 0, none⟩)], Value.float FloatKind.f64 (avs f n s 0), Value.int IntKind.i64 (s : Nat), Value.func (Fn.func 89) #[] #[Value.pointer (some ⟨w1.heap.size + 1 + 1, 0, none⟩)], Value.float .f64 (pt s x), undef, undef, undef, undef, undef, undef, undef, undef, undef], defers := [] }) ?assign ?body ?done ?stop
  case seq =>
    intro l J Jx W hW hJ _ hY hJ0
    exact (points_in Fence.wide (6 - 1) trivial rfl (by omega) l (w1.heap.size + 1 + 1) s h1 h2 J Jx hY W ((hW.cell (p := ⟨w1.heap.size + 1 + 1, 0, none⟩) (by simp)).trans (by simp [go_sem])) hJ0).mono fun e W' h => h
  case own =>
    refine OwnFrom.and (Own.from (fun s A C row hs hg hr => ?_) _) (ownFrom_below (Nat.le_refl _) (by simp; omega))
    obtain ⟨b, g, k1, k2, k3, k4, k5, k6⟩ := hs
    exact ⟨b, g, cell_kept k1 hg hr, (frozen_kept k1 hg hr).trans k2, cell_kept k3 hg hr, (frozen_kept k3 hg hr).trans k4, cell_kept k5 hg hr, k6⟩
  case ownx => exact fun _ _ _ _ _ hs _ _ => hs
  case start =>
    refine ⟨⟨0, avs f n s 0, by simp [go_sem], by simp [go_sem], by simp [go_sem], by simp [go_sem], by simp [go_sem], fun _ => by rw [show ([] : List Nat).length = 0 from rfl, top_zero]; exact ⟨(pt_zero h1 h2).symm, rfl⟩⟩, (((Below.refl _ w1).alloc (Nat.le_refl _) _).alloc (by simp) _).alloc (by simp; omega) _⟩
  case assign =>
    intro l x W K hK
    gi_wp2
    exact hK
  case body =>
    rintro l pre x W ⟨⟨b, g, k1, k2, k3, k4, k5, k6⟩, hB⟩ hlt
    have d2 := (hB.cell (p := ⟨w.heap.size + 1, 0, none⟩) (by show w.heap.size + 1 < _; omega)).trans c2
    have hNW := (cell_lt k5).2
    have CA := Lib.hid (atp_any w.heap.size A n c s x f W ((hB.cell (p := ⟨w.heap.size, 0, none⟩) (by show w.heap.size < _; omega)).trans c1) (L1.out.below hB) HL.out h1 h2)
    have K6 := Lib.hid k6
    clear k6
    cases hcmp : fgt (avs f n s x) g with
    | true =>
      have ho : (FloatKind.f64.format.order (avs f n s x) g == some Ordering.gt) = true := hcmp
      have HC := Lib.hid hcmp
      clear hcmp
      gi_wp2_with fail
      refine ⟨trivial, (CallsIn.inRound l (callsIn_wide.2 CA.out)).mono ?_⟩
      rintro e W3 ⟨rfl, hb3⟩
      have m1 := (hb3.cell (p := ⟨w1.heap.size, 0, none⟩) (by show w1.heap.size < _; omega)).trans k1
      have m2 := (hb3.frozen (p := ⟨w1.heap.size, 0, none⟩) (by show w1.heap.size < _; omega)).trans k2
      have m3 := (hb3.cell (p := ⟨w1.heap.size + 1, 0, none⟩) (by show w1.heap.size + 1 < _; omega)).trans k3
      have m4 := (hb3.frozen (p := ⟨w1.heap.size + 1, 0, none⟩) (by show w1.heap.size + 1 < _; omega)).trans k4
      have m5 := (hb3.cell (p := ⟨w1.heap.size + 1 + 1, 0, none⟩) hNW).trans k5
      gi_wp2
      refine ⟨(keeps_below hb3).trans ((KeepsOthers.setCell _ _ _).trans (KeepsOthers.setCell _ _ _)), ?_, ⟨pt s x, avs f n s x, ?_, ?_, ?_, ?_, ?_, ?_⟩, ((hB.trans (hb3.mono hB.size)).setCell (p := ⟨w1.heap.size, 0, none⟩) (Nat.le_refl _) _).setCell (p := ⟨w1.heap.size + 1, 0, none⟩) (by show w1.heap.size ≤ w1.heap.size + 1; omega) _⟩
      · show World.cell? _ _ = World.cell? _ _
        rw [k5]
        simp [go_sem, m5]
      · simp [go_sem, m1]
      · simp [go_sem, m2]
      · simp [go_sem, m3]
      · simp [go_sem, m4]
      · simp [go_sem, m5]
      · intro he
        obtain ⟨rfl, e1⟩ := range_snoc he
        obtain ⟨_, e3⟩ := K6.out e1
        rw [List.length_append, List.length_singleton, top_step (fgt_self hA), ← e3, HC.out]
        exact ⟨rfl, rfl⟩
    | false =>
      have ho : (FloatKind.f64.format.order (avs f n s x) g == some Ordering.gt) = false := hcmp
      have HC := Lib.hid hcmp
      clear hcmp
      gi_wp2_with fail
      refine ⟨trivial, (CallsIn.inRound l (callsIn_wide.2 CA.out)).mono ?_⟩
      rintro e W3 ⟨rfl, hb3⟩
      have m1 := (hb3.cell (p := ⟨w1.heap.size, 0, none⟩) (by show w1.heap.size < _; omega)).trans k1
      have m2 := (hb3.frozen (p := ⟨w1.heap.size, 0, none⟩) (by show w1.heap.size < _; omega)).trans k2
      have m3 := (hb3.cell (p := ⟨w1.heap.size + 1, 0, none⟩) (by show w1.heap.size + 1 < _; omega)).trans k3
      have m4 := (hb3.frozen (p := ⟨w1.heap.size + 1, 0, none⟩) (by show w1.heap.size + 1 < _; omega)).trans k4
      have m5 := (hb3.cell (p := ⟨w1.heap.size + 1 + 1, 0, none⟩) hNW).trans k5
      gi_wp2
      refine ⟨keeps_below hb3, ?_, ⟨b, g, m1, m2, m3, m4, m5, ?_⟩, hB.trans (hb3.mono hB.size)⟩
      · show World.cell? _ _ = World.cell? _ _
        rw [k5, m5]
      · intro he
        obtain ⟨rfl, e1⟩ := range_snoc he
        obtain ⟨e2, e3⟩ := K6.out e1
        rw [List.length_append, List.length_singleton, top_step (fgt_self hA), ← e3, HC.out]
        exact ⟨e2, e3⟩
  case done =>
    rintro D ys W hD rfl ⟨⟨b, g, k1, k2, k3, k4, k5, k6⟩, hB⟩ hK
    have k6' := k6 (by rw [List.length_range])
    rw [List.length_range] at k6'
    have HP := Lib.hid k6'.1
    clear k6 k6'
    gi_wp2
    refine ⟨by simp, .inl ⟨_, _, rfl, run_takeDeferred hK, ?_⟩⟩
    exact ⟨_, results_tmp2 rfl _ _ _, by rw [show gtop (avs f n s) s = top (avs f n s) (s + 1) from rfl, ← HP.out]; rfl, (hbw.trans (hB.mono hbw.size)).trans (belowK_b (w := w) (Nat.le_refl _) W D _ _ (by simp at hD; omega) hK rfl rfl)⟩
  case stop =>
    rintro D c pre W _ _ h _
    exact h.elim

theorem avs_fin {f : Nat → Nat} {n s i : Nat} (h1 : 1 ≤ s) (h2 : s ≤ 1000) (hw : ∀ j, j < n → f j < 2 ^ 64) (hl : listB n f = true) : isFin (avs f n s i) := by
  have hr : avs f n s i = avg f (n - 1) (absb (pt s i)) := by unfold avs; rfl
  obtain ⟨g1, g2, _⟩ := listB_parts hl
  have hv := vals_fin hw hl
  rw [hr]
  exact (avg_ok (ok_abs (by omega) (pt_prob h1 h2).2 (pt_prob h1 h2).1) (fun k hk => ⟨(hv k (by omega)).1, Rat.le_trans (hv k (by omega)).2 (by decide +kernel)⟩)).1

theorem Peak_ok (A : Option Addr) (n c s : Nat) (f : Nat → Nat) (w : World) (h : ListIn w A n f) (hl : listB n f = true) (h1 : 1 ≤ s) (h2 : s ≤ 1000) :
    Calls Try.prog 46 #[.slice A n c, .int .i64 (s : Nat)] w fun e w' => e = .returned (.tuple #[.float .f64 (pt s (gtop (avs f n s) s)), .int .i64 0]) ∧ Below w.heap.size w w' :=
  callsIn_wide.1 (Peak_in A n c s f w h hl h1 h2 (avs_fin h1 h2 h.wf hl))

set_option maxRecDepth 100000 in
theorem Peak_bad (A : Option Addr) (n c : Nat) (s : Int) (f : Nat → Nat) (w : World) (h : ListIn w A n f) (hbad : (listB n f && stepsB s) = false) :
    Calls Try.prog 46 #[.slice A n c, .int .i64 s] w fun e w' => e = .returned (.tuple #[.float .f64 0, .int .i64 2]) ∧ Below w.heap.size w w' := by
  have HA := Lib.hid h
  cases hl : listB n f with
  | false =>
    have CL := Lib.hid (fun W (hW : ListIn W A n f) => cisList_any A n c f W hW)
    rw [hl] at CL
    clear h hbad hl
    go_enter Try.func46, Try.ntmps46
    go_wp2_with (go_at_call 73; refine (CL.out _ (HA.out.below ((Below.refl _ w).alloc (Nat.le_refl _) _))).mono ?_; rintro e w' ⟨rfl, rfl⟩)
    go_ret2
    exact ⟨rfl, (Below.refl _ w).alloc (Nat.le_refl _) _⟩
  | true =>
    rw [hl, Bool.true_and] at hbad
    have CL := Lib.hid (fun W (hW : ListIn W A n f) => cisList_any A n c f W hW)
    rw [hl] at CL
    have CS := Lib.hid (fun W => isSteps_any s W)
    rw [hbad] at CS
    clear h hbad hl
    go_enter Try.func46, Try.ntmps46
    go_wp2_with (first | (go_at_call 73; refine (CL.out _ (HA.out.below ((Below.refl _ w).alloc (Nat.le_refl _) _))).mono ?_; rintro e w' ⟨rfl, rfl⟩) | (go_at_call 74; refine (CS.out _).mono ?_; rintro e w' ⟨rfl, rfl⟩))
    go_ret2
    exact ⟨rfl, (Below.refl _ w).alloc (Nat.le_refl _) _⟩
end Go.Proofs.Ytcgoicijbmhmpaa
