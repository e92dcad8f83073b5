/-
  The walk through the reference's weights, and the two lists set side by side.
-/
import Derived.Test.YtcgoicijbmhmpaaW3
namespace Go.Proofs.Ytcgoicijbmhmpaa
open Go.RowKit Go.Fl Go.Deep

/-- What lies in memory between two rounds of the reference: the row, and nothing old has turned. -/
def Rows2 (w : World) (m : Nat) (f : Nat → Nat) (wr : World) : Prop := wr.rowIs w.heap.size 22 (m + 1) (fl f) ∧ Below w.heap.size w wr
theorem Rows2.row {w wr : World} {m i : Nat} {f : Nat → Nat} (h : Rows2 w m f wr) (hi : i < m + 1) : wr.cell? ⟨w.heap.size, i, none⟩ = some (.float .f64 (f i)) := h.1.cell hi
theorem Rows2.frozen {w wr : World} {m : Nat} {f : Nat → Nat} (h : Rows2 w m f wr) (i : Nat) : wr.frozen? ⟨w.heap.size, i, none⟩ = false := h.1.frozen i
theorem Rows2.set {w wr : World} {m : Nat} {f g : Nat → Nat} (h : Rows2 w m f wr) (i x : Nat) (hg : ∀ j, j < m + 1 → (if j = i then x else f j) = g j) :
    Rows2 w m g (wr.setCell ⟨w.heap.size, i, none⟩ (.float .f64 x)) := by
  refine ⟨(h.1.set i (.float .f64 x)).congr fun j hj => ?_, h.2.setCell (Nat.le_refl _) _⟩
  unfold fl
  rw [← hg j hj]
  split <;> rfl
theorem Rows2.congr {w wr : World} {m : Nat} {f g : Nat → Nat} (h : Rows2 w m f wr) (hg : ∀ j, j < m + 1 → f j = g j) : Rows2 w m g wr :=
  ⟨h.1.congr fun j hj => by unfold fl; rw [hg j hj], h.2⟩

attribute [local go_sem] run_store_float
set_option maxHeartbeats 2000000 in
set_option maxRecDepth 100000 in
theorem refw_a (m p : Nat) (w : World) (h : Ok m p) (n : Nat) (st : Begun m p n) (hlt : n ≤ m) :
    Calls Try.prog 63 #[.int .i64 m, .float .f64 p] w fun e w' => e = .returned (.slice (some ⟨w.heap.size, 0, none⟩) (m + 1) (m + 1)) ∧
      w'.rowIs w.heap.size 22 (m + 1) (fl (wt m p)) ∧ Below w.heap.size w w' := by
  have hm := h.m
  have hmk : ∀ W, (Instr.makeSlice 24 (.int .i64 ((m : Int) + 1)) (.int .i64 ((m : Int) + 1))).run Try.prog W = .ok (.slice (some ⟨W.heap.size, 0, none⟩) (m + 1) (m + 1)) (W.alloc (.cells (madeCells #[.float .f64 0] (m + 1)) 22)) :=
    fun W => by have := run_mk (m + 1) (by omega) W; rw [show ((m + 1 : Nat) : Int) = (m : Int) + 1 by omega] at this; exact this
  have hmul : ∀ ty W, (binOp .mul ty (.float .f64 (floatOfInt .f64 ((m : Int) + 1))) (.float .f64 p)).run Try.prog W = .ok (.float .f64 (prod1 m p)) W := by
    intro ty W
    have := run_float_arith (P := Try.prog) W .mul ty .f64 _ _ _ st.mul
    rw [show ((m + 1 : Nat) : Int) = (m : Int) + 1 by omega] at this
    exact this
  obtain ⟨s, mm, e, hd, he⟩ := st.num
  have hconv : ∀ W, (convert 22 3 (.float .f64 (floorB (prod1 m p)))).run Try.prog W = .ok (.int .i64 (n : Int)) W :=
    fun W => run_convert_float_int W 22 3 .f64 .i64 _ _ (by rw [Try.underlying22]; rfl) Try.underlying3 st.int
  have HC := Lib.hid (fun W => floor_any (prod1 m p) W s mm e hd)
  rw [he] at HC
  have ST := Lib.hid st
  clear he hd st
  have l1 : (n : Int) < (m : Int) + 1 := by omega
  have hK : kz m p = n := by rw [ST.out.kz]; omega
  have HK := Lib.hid hK
  clear hK
  have R0 := (World.rowIs_made w (.float .f64 0) (m + 1) 22)
  have hc1 := R0.cell (i := n) (by omega)
  have hf1 := R0.frozen n
  have HR := Lib.hid R0
  clear R0
  go_enter Try.func63, Try.ntmps63
  go_wp2_with (go_at_call 85; refine (HC.out _).mono ?_; rintro e w' ⟨rfl, rfl⟩)
  have HL : Rows2 w m (fun i => if n ≤ i ∧ i ≤ n then raw m p i else 0) ((w.alloc (.cells (madeCells #[Value.float .f64 0] (m + 1)) 22)).setCell ⟨w.heap.size, n, none⟩ (.float .f64 4607182418800017408)) := by
    refine Rows2.set (f := fun _ => 0) ⟨HR.out, ?_⟩ n 4607182418800017408 ?_
    · exact (Below.refl _ w).alloc (Nat.le_refl _) _
    · intro j _
      by_cases hj : j = n
      · have hr := raw_kz m p; rw [HK.out] at hr; rw [hj, if_pos rfl, if_pos ⟨Nat.le_refl _, Nat.le_refl _⟩, hr]; rfl
      · rw [if_neg hj, if_neg (by omega)]
  rw [World.setCell_alloc_at _ _ _ _ _ rfl] at HL
  go_loopw [8] (fun v wr => ∃ k : Nat, n ≤ k ∧ k ≤ m ∧ v = .int .i64 k ∧ Rows2 w m (fun i => if n ≤ i ∧ i ≤ k then raw m p i else 0) wr) (fun v _ => m - (intOf v).toNat)
  case atStart => exact ⟨n, Nat.le_refl _, by omega, rfl, HL⟩
  case round =>
    clear HL hc1 hf1 hmul hconv hmk
    obtain ⟨k, hk1, hk2, rfl, hL⟩ := hrel
    by_cases hkm : k < m
    · obtain ⟨o1, o2, o3, o4, o5⟩ := raw_up_ops h (k := k) (by rw [HK.out]; exact hk1) hkm
      have hsub := fun ty W => run_float_arith (P := Try.prog) W .sub ty .f64 _ _ _ o1
      have hquo := fun ty W => run_float_arith (P := Try.prog) W .quo ty .f64 _ _ _ o2
      have hq3 := fun ty W => run_float_arith (P := Try.prog) W .quo ty .f64 _ _ _ o3
      have hq4 := fun ty W => run_float_arith (P := Try.prog) W .mul ty .f64 _ _ _ o4
      have hq5 := fun ty W => run_float_arith (P := Try.prog) W .mul ty .f64 _ _ _ o5
      unfold one at hsub hquo
      generalize hqq : fdiv (ofI (m - k : Nat)) (ofI (k + 1 : Nat)) = q at *
      clear hqq
      rw [show ((m - k : Nat) : Int) = (m : Int) - k by omega, show ((k + 1 : Nat) : Int) = (k : Int) + 1 by omega] at hq3
      have r1 := hL.row (i := k) (by omega)
      rw [if_pos ⟨hk1, Nat.le_refl _⟩] at r1
      have r2 := hL.row (i := k + 1) (by omega)
      rw [if_neg (by omega)] at r2
      have f2 := hL.frozen (k + 1)
      have l2 : (k : Int) < (m : Int) + 1 := by omega
      have l3 : (k : Int) + 1 < (m : Int) + 1 := by omega
      have HN : Rows2 w m (fun i => if n ≤ i ∧ i ≤ k + 1 then raw m p i else 0) (wr.setCell ⟨w.heap.size, k + 1, none⟩ (.float .f64 (raw m p (k + 1)))) := by
        refine hL.set (k + 1) (raw m p (k + 1)) fun j _ => ?_
        by_cases hj : j = k + 1
        · subst hj; rw [if_pos rfl, if_pos ⟨by omega, Nat.le_refl _⟩]
        · rw [if_neg hj]
          by_cases hj2 : n ≤ j ∧ j ≤ k
          · rw [if_pos hj2, if_pos ⟨hj2.1, by omega⟩]
          · rw [if_neg hj2, if_neg (by omega)]
      clear o1 o2 o3 o4 o5
      go_wp2
      go_roundw
      case rel => exact ⟨k + 1, by omega, by omega, by go_num, HN⟩
      case measure => simp [intOf]; omega
    · have hkm' : k = m := by omega
      have HL2 : Rows2 w m (fun i => if n ≤ i then raw m p i else 0) wr := by
        refine hL.congr fun j hj => ?_
        by_cases hj2 : n ≤ j
        · rw [if_pos hj2, if_pos ⟨hj2, by omega⟩]
        · rw [if_neg hj2, if_neg (by omega)]
      clear hL hkm'
      go_wp2
      obtain ⟨wo, rfl⟩ : ∃ wo : World, wo = wr := ⟨_, rfl⟩
      go_loopw [13] (fun v wr => ∃ k : Nat, k ≤ n ∧ v = .int .i64 k ∧ Rows2 w m (fun i => if k ≤ i then raw m p i else 0) wr) (fun v _ => (intOf v).toNat)
      case atStart => exact ⟨n, Nat.le_refl _, rfl, HL2⟩
      case round =>
        clear HL2 hk1 hk2 hkm
        obtain ⟨k, hk1, rfl, hL⟩ := hrel
        cases k with
        | succ k =>
          obtain ⟨o1, o2, o3, o4, o5⟩ := raw_dn_ops h (k := k) (by rw [HK.out]; omega)
          have hsub := fun ty W => run_float_arith (P := Try.prog) W .sub ty .f64 _ _ _ o1
          have hquo := fun ty W => run_float_arith (P := Try.prog) W .quo ty .f64 _ _ _ o2
          have hq3 := fun ty W => run_float_arith (P := Try.prog) W .quo ty .f64 _ _ _ o3
          have hq4 := fun ty W => run_float_arith (P := Try.prog) W .mul ty .f64 _ _ _ o4
          have hq5 := fun ty W => run_float_arith (P := Try.prog) W .mul ty .f64 _ _ _ o5
          unfold one at hsub hquo
          generalize hqq : fdiv (ofI (k + 1 : Nat)) (ofI (m - (k + 1) + 1 : Nat)) = q at *
          clear hqq
          rw [show ((m - (k + 1) + 1 : Nat) : Int) = (m : Int) - (k + 1) + 1 by omega, show ((k + 1 : Nat) : Int) = (k : Int) + 1 by omega] at hq3
          have r1 := hL.row (i := k + 1) (by omega)
          rw [if_pos (Nat.le_refl _)] at r1
          have r2 := hL.row (i := k) (by omega)
          rw [if_neg (by omega)] at r2
          have f2 := hL.frozen k
          have l2 : (k : Int) < (m : Int) + 1 := by omega
          have l3 : (k : Int) + 1 < (m : Int) + 1 := by omega
          have HN : Rows2 w m (fun i => if k ≤ i then raw m p i else 0) (wr.setCell ⟨w.heap.size, k, none⟩ (.float .f64 (raw m p k))) := by
            refine hL.set k (raw m p k) fun j _ => ?_
            by_cases hj : j = k
            · subst hj; rw [if_pos rfl, if_pos (Nat.le_refl _)]
            · rw [if_neg hj]
              by_cases hj2 : k + 1 ≤ j
              · rw [if_pos hj2, if_pos (by omega)]
              · rw [if_neg hj2, if_neg (by omega)]
          clear o1 o2 o3 o4 o5
          go_wp2
          go_roundw
          case rel => exact ⟨k, by omega, by go_num, HN⟩
          case measure => simp [intOf]
        | zero =>
          have HL3 : Rows2 w m (raw m p) wr := hL.congr fun j _ => if_pos (Nat.zero_le j)
          clear hL hk1
          go_wp2
          obtain ⟨wo, rfl⟩ : ∃ wo : World, wo = wr := ⟨_, rfl⟩
          go_loop [18, 19] (fun s i => ∃ k : Nat, k ≤ m + 1 ∧ i = .int .i64 k ∧ s = .float .f64 (psum (raw m p) k)) (fun _ i => m + 1 - (intOf i).toNat)
          case atStart => exact ⟨0, Nat.zero_le _, rfl, rfl⟩
          case round =>
            obtain ⟨k, hk, rfl, rfl⟩ := hrel
            by_cases hkm : k < m + 1
            · have r1 := HL3.row hkm
              have hadd := fun ty W => run_float_arith (P := Try.prog) W .add ty .f64 _ _ _ (((psum_ok (n := m + 1) (by omega) (raw_all h) k (by omega)).2.2.2 hkm).1)
              have l2 : (k : Int) < (m : Int) + 1 := by omega
              have l3 : (k : Int) ≤ (m : Int) := by omega
              go_wp2
              go_round
              case rel => exact ⟨k + 1, by omega, by go_num, rfl⟩
              case measure => simp [intOf]; omega
            · have hkk : k = m + 1 := by omega
              subst hkk
              go_wp2
              obtain ⟨wo, rfl⟩ : ∃ wo' : World, wo' = wo := ⟨_, rfl⟩
              go_loopw [20] (fun i wr => ∃ k : Nat, k ≤ m + 1 ∧ i = .int .i64 k ∧ Rows2 w m (fun j => if j < k then wt m p j else raw m p j) wr) (fun i _ => m + 1 - (intOf i).toNat)
              case atStart => exact ⟨0, Nat.zero_le _, rfl, HL3.congr fun j _ => by rw [if_neg (by omega)]⟩
              case round =>
                clear HL3 hk hkm
                obtain ⟨k, hk, rfl, hL⟩ := hrel
                by_cases hkm : k < m + 1
                · have r1 := hL.row hkm
                  have f1 := hL.frozen k
                  rw [if_neg (Nat.lt_irrefl k)] at r1
                  have hq := (wt_ok h (k := k) (by omega)).1
                  unfold total at hq
                  have hquo := fun ty W => run_float_arith (P := Try.prog) W .quo ty .f64 _ _ _ hq
                  clear hq
                  have l2 : (k : Int) < (m : Int) + 1 := by omega
                  have l3 : (k : Int) ≤ (m : Int) := by omega
                  have HN : Rows2 w m (fun j => if j < k + 1 then wt m p j else raw m p j) (wr.setCell ⟨w.heap.size, k, none⟩ (.float .f64 (wt m p k))) := by
                    refine hL.set k (wt m p k) fun j _ => ?_
                    by_cases hj : j = k
                    · subst hj; rw [if_pos rfl, if_pos (by omega)]
                    · rw [if_neg hj]
                      by_cases hj2 : j < k
                      · rw [if_pos hj2, if_pos (by omega)]
                      · rw [if_neg hj2, if_neg (by omega)]
                  go_wp2
                  go_roundw
                  case rel => exact ⟨k + 1, by omega, by go_num, HN⟩
                  case measure => simp [intOf]; omega
                · have hkk : k = m + 1 := by omega
                  have HF : Rows2 w m (wt m p) wr := hL.congr fun j hj => if_pos (by omega)
                  clear hL
                  subst hkk
                  go_wp2
                  go_ret
                  exact ⟨rfl, HF.1, HF.2⟩

set_option maxHeartbeats 2000000 in
set_option maxRecDepth 100000 in
theorem refw_b (m p : Nat) (w : World) (h : Ok m p) (n : Nat) (st : Begun m p n) (hlt : m < n) :
    Calls Try.prog 63 #[.int .i64 m, .float .f64 p] w fun e w' => e = .returned (.slice (some ⟨w.heap.size, 0, none⟩) (m + 1) (m + 1)) ∧
      w'.rowIs w.heap.size 22 (m + 1) (fl (wt m p)) ∧ Below w.heap.size w w' := by
  have hm := h.m
  have hmk : ∀ W, (Instr.makeSlice 24 (.int .i64 ((m : Int) + 1)) (.int .i64 ((m : Int) + 1))).run Try.prog W = .ok (.slice (some ⟨W.heap.size, 0, none⟩) (m + 1) (m + 1)) (W.alloc (.cells (madeCells #[.float .f64 0] (m + 1)) 22)) :=
    fun W => by have := run_mk (m + 1) (by omega) W; rw [show ((m + 1 : Nat) : Int) = (m : Int) + 1 by omega] at this; exact this
  have hmul : ∀ ty W, (binOp .mul ty (.float .f64 (floatOfInt .f64 ((m : Int) + 1))) (.float .f64 p)).run Try.prog W = .ok (.float .f64 (prod1 m p)) W := by
    intro ty W
    have := run_float_arith (P := Try.prog) W .mul ty .f64 _ _ _ st.mul
    rw [show ((m + 1 : Nat) : Int) = (m : Int) + 1 by omega] at this
    exact this
  obtain ⟨s, mm, e, hd, he⟩ := st.num
  have hconv : ∀ W, (convert 22 3 (.float .f64 (floorB (prod1 m p)))).run Try.prog W = .ok (.int .i64 (n : Int)) W :=
    fun W => run_convert_float_int W 22 3 .f64 .i64 _ _ (by rw [Try.underlying22]; rfl) Try.underlying3 st.int
  have HC := Lib.hid (fun W => floor_any (prod1 m p) W s mm e hd)
  rw [he] at HC
  have ST := Lib.hid st
  clear he hd st
  have l1 : (m : Int) < (m : Int) + 1 := by omega
  have hK : kz m p = m := by rw [ST.out.kz]; omega
  have HK := Lib.hid hK
  clear hK
  have R0 := (World.rowIs_made w (.float .f64 0) (m + 1) 22)
  have hc1 := R0.cell (i := m) (by omega)
  have hf1 := R0.frozen m
  have HR := Lib.hid R0
  clear R0
  go_enter Try.func63, Try.ntmps63
  go_wp2_with (go_at_call 85; refine (HC.out _).mono ?_; rintro e w' ⟨rfl, rfl⟩)
  have HL : Rows2 w m (fun i => if m ≤ i ∧ i ≤ m then raw m p i else 0) ((w.alloc (.cells (madeCells #[Value.float .f64 0] (m + 1)) 22)).setCell ⟨w.heap.size, m, none⟩ (.float .f64 4607182418800017408)) := by
    refine Rows2.set (f := fun _ => 0) ⟨HR.out, ?_⟩ m 4607182418800017408 ?_
    · exact (Below.refl _ w).alloc (Nat.le_refl _) _
    · intro j _
      by_cases hj : j = m
      · have hr := raw_kz m p; rw [HK.out] at hr; rw [hj, if_pos rfl, if_pos ⟨Nat.le_refl _, Nat.le_refl _⟩, hr]; rfl
      · rw [if_neg hj, if_neg (by omega)]
  rw [World.setCell_alloc_at _ _ _ _ _ rfl] at HL
  go_loopw [8] (fun v wr => ∃ k : Nat, m ≤ k ∧ k ≤ m ∧ v = .int .i64 k ∧ Rows2 w m (fun i => if m ≤ i ∧ i ≤ k then raw m p i else 0) wr) (fun v _ => m - (intOf v).toNat)
  case atStart => exact ⟨m, Nat.le_refl _, by omega, rfl, HL⟩
  case round =>
    clear HL hc1 hf1 hmul hconv hmk
    obtain ⟨k, hk1, hk2, rfl, hL⟩ := hrel
    by_cases hkm : k < m
    · exfalso; omega
    · have hkm' : k = m := by omega
      have HL2 : Rows2 w m (fun i => if m ≤ i then raw m p i else 0) wr := by
        refine hL.congr fun j hj => ?_
        by_cases hj2 : m ≤ j
        · rw [if_pos hj2, if_pos ⟨hj2, by omega⟩]
        · rw [if_neg hj2, if_neg (by omega)]
      clear hL hkm'
      go_wp2
      obtain ⟨wo, rfl⟩ : ∃ wo : World, wo = wr := ⟨_, rfl⟩
      go_loopw [13] (fun v wr => ∃ k : Nat, k ≤ m ∧ v = .int .i64 k ∧ Rows2 w m (fun i => if k ≤ i then raw m p i else 0) wr) (fun v _ => (intOf v).toNat)
      case atStart => exact ⟨m, Nat.le_refl _, rfl, HL2⟩
      case round =>
        clear HL2 hk1 hk2 hkm
        obtain ⟨k, hk1, rfl, hL⟩ := hrel
        cases k with
        | succ k =>
          obtain ⟨o1, o2, o3, o4, o5⟩ := raw_dn_ops h (k := k) (by rw [HK.out]; omega)
          have hsub := fun ty W => run_float_arith (P := Try.prog) W .sub ty .f64 _ _ _ o1
          have hquo := fun ty W => run_float_arith (P := Try.prog) W .quo ty .f64 _ _ _ o2
          have hq3 := fun ty W => run_float_arith (P := Try.prog) W .quo ty .f64 _ _ _ o3
          have hq4 := fun ty W => run_float_arith (P := Try.prog) W .mul ty .f64 _ _ _ o4
          have hq5 := fun ty W => run_float_arith (P := Try.prog) W .mul ty .f64 _ _ _ o5
          unfold one at hsub hquo
          generalize hqq : fdiv (ofI (k + 1 : Nat)) (ofI (m - (k + 1) + 1 : Nat)) = q at *
          clear hqq
          rw [show ((m - (k + 1) + 1 : Nat) : Int) = (m : Int) - (k + 1) + 1 by omega, show ((k + 1 : Nat) : Int) = (k : Int) + 1 by omega] at hq3
          have r1 := hL.row (i := k + 1) (by omega)
          rw [if_pos (Nat.le_refl _)] at r1
          have r2 := hL.row (i := k) (by omega)
          rw [if_neg (by omega)] at r2
          have f2 := hL.frozen k
          have l2 : (k : Int) < (m : Int) + 1 := by omega
          have l3 : (k : Int) + 1 < (m : Int) + 1 := by omega
          have HN : Rows2 w m (fun i => if k ≤ i then raw m p i else 0) (wr.setCell ⟨w.heap.size, k, none⟩ (.float .f64 (raw m p k))) := by
            refine hL.set k (raw m p k) fun j _ => ?_
            by_cases hj : j = k
            · subst hj; rw [if_pos rfl, if_pos (Nat.le_refl _)]
            · rw [if_neg hj]
              by_cases hj2 : k + 1 ≤ j
              · rw [if_pos hj2, if_pos (by omega)]
              · rw [if_neg hj2, if_neg (by omega)]
          clear o1 o2 o3 o4 o5
          go_wp2
          go_roundw
          case rel => exact ⟨k, by omega, by go_num, HN⟩
          case measure => simp [intOf]
        | zero =>
          have HL3 : Rows2 w m (raw m p) wr := hL.congr fun j _ => if_pos (Nat.zero_le j)
          clear hL hk1
          go_wp2
          obtain ⟨wo, rfl⟩ : ∃ wo : World, wo = wr := ⟨_, rfl⟩
          go_loop [18, 19] (fun s i => ∃ k : Nat, k ≤ m + 1 ∧ i = .int .i64 k ∧ s = .float .f64 (psum (raw m p) k)) (fun _ i => m + 1 - (intOf i).toNat)
          case atStart => exact ⟨0, Nat.zero_le _, rfl, rfl⟩
          case round =>
            obtain ⟨k, hk, rfl, rfl⟩ := hrel
            by_cases hkm : k < m + 1
            · have r1 := HL3.row hkm
              have hadd := fun ty W => run_float_arith (P := Try.prog) W .add ty .f64 _ _ _ (((psum_ok (n := m + 1) (by omega) (raw_all h) k (by omega)).2.2.2 hkm).1)
              have l2 : (k : Int) < (m : Int) + 1 := by omega
              have l3 : (k : Int) ≤ (m : Int) := by omega
              go_wp2
              go_round
              case rel => exact ⟨k + 1, by omega, by go_num, rfl⟩
              case measure => simp [intOf]; omega
            · have hkk : k = m + 1 := by omega
              subst hkk
              go_wp2
              obtain ⟨wo, rfl⟩ : ∃ wo' : World, wo' = wo := ⟨_, rfl⟩
              go_loopw [20] (fun i wr => ∃ k : Nat, k ≤ m + 1 ∧ i = .int .i64 k ∧ Rows2 w m (fun j => if j < k then wt m p j else raw m p j) wr) (fun i _ => m + 1 - (intOf i).toNat)
              case atStart => exact ⟨0, Nat.zero_le _, rfl, HL3.congr fun j _ => by rw [if_neg (by omega)]⟩
              case round =>
                clear HL3 hk hkm
                obtain ⟨k, hk, rfl, hL⟩ := hrel
                by_cases hkm : k < m + 1
                · have r1 := hL.row hkm
                  have f1 := hL.frozen k
                  rw [if_neg (Nat.lt_irrefl k)] at r1
                  have hq := (wt_ok h (k := k) (by omega)).1
                  unfold total at hq
                  have hquo := fun ty W => run_float_arith (P := Try.prog) W .quo ty .f64 _ _ _ hq
                  clear hq
                  have l2 : (k : Int) < (m : Int) + 1 := by omega
                  have l3 : (k : Int) ≤ (m : Int) := by omega
                  have HN : Rows2 w m (fun j => if j < k + 1 then wt m p j else raw m p j) (wr.setCell ⟨w.heap.size, k, none⟩ (.float .f64 (wt m p k))) := by
                    refine hL.set k (wt m p k) fun j _ => ?_
                    by_cases hj : j = k
                    · subst hj; rw [if_pos rfl, if_pos (by omega)]
                    · rw [if_neg hj]
                      by_cases hj2 : j < k
                      · rw [if_pos hj2, if_pos (by omega)]
                      · rw [if_neg hj2, if_neg (by omega)]
                  go_wp2
                  go_roundw
                  case rel => exact ⟨k + 1, by omega, by go_num, HN⟩
                  case measure => simp [intOf]; omega
                · have hkk : k = m + 1 := by omega
                  have HF : Rows2 w m (wt m p) wr := hL.congr fun j hj => if_pos (by omega)
                  clear hL
                  subst hkk
                  go_wp2
                  go_ret
                  exact ⟨rfl, HF.1, HF.2⟩

/-! ### The two functions at every probability -/
theorem abs_of_zero {p : Nat} (h : isFin p) (h0 : fv p = 0) : absb p = 0 := by
  obtain ⟨q, k, hw, hq, hk, hq2, hr⟩ := read_fin h
  unfold fv at h0; rw [hr] at h0
  have h1 : (sg (p / 2 ^ 63 % 2 == 1) (mv k ((q : Int) - 1074))).abs = 0 := by
    have : sg (p / 2 ^ 63 % 2 == 1) (mv k ((q : Int) - 1074)) = 0 := h0
    rw [this]; exact Rat.abs_zero
  rw [abs_sg] at h1
  have h2 : mv k ((q : Int) - 1074) = mv 0 ((q : Int) - 1074) := by rw [h1, mv_zero]
  have h3 := mv_inj.1 h2
  unfold absb; omega
theorem abs_of_pos {p : Nat} (h : isFin p) (h0 : 0 < fv p) : absb p = p := by
  obtain ⟨q, k, hw, hq, hk, hq2, hr⟩ := read_fin h
  unfold fv at h0; rw [hr] at h0
  have hm := mv_nonneg k ((q : Int) - 1074)
  have hlt := h.1
  unfold absb
  by_cases hs : p / 2 ^ 63 % 2 = 1
  · exfalso
    have : (p / 2 ^ 63 % 2 == 1) = true := by simpa using hs
    rw [this] at h0
    have h1 : 0 < -mv k ((q : Int) - 1074) := h0
    grind
  · omega
/-- Of a probability: its amount is one, too. -/
theorem ok_abs {m p : Nat} (hm : m ≤ 16384) (hp : p < 2 ^ 64) (h : prob p = true) : Ok m (absb p) := by
  obtain ⟨hf, h0, h1⟩ := prob_fin hp h
  have e := fv_abs hf
  rw [Rat.abs_of_nonneg h0] at e
  exact ⟨hm, isFin_abs hf, by rw [e]; exact h0, by rw [e]; exact h1⟩
theorem begun_lt {m p n : Nat} (h : Ok m p) (st : Begun m p n) : (FloatKind.f64.format.order (floorB (prod1 m p)) (floatOfInt .f64 (m : Int)) == some Ordering.lt) = decide (n < m) := by
  obtain ⟨fm, vm⟩ := ofN_ok m (by have := h.m; omega)
  have h1 := flt_iff st.fl.1 fm
  rw [st.fl.2, vm] at h1
  rw [Bool.eq_iff_iff]
  have h2 : ((n : Rat) < (m : Rat)) ↔ n < m := Rat.natCast_lt_natCast
  rw [decide_eq_true_iff, ← h2]
  exact h1
def Made (m p : Nat) (w : World) (e : Ending) (w' : World) : Prop :=
  e = .returned (.slice (some ⟨w.heap.size, 0, none⟩) (m + 1) (m + 1)) ∧ w'.rowIs w.heap.size 22 (m + 1) (fl (wt m (absb p))) ∧ Below w.heap.size w w'
/-- canon.weights. -/
theorem weights_c (m p : Nat) (w : World) (hm : m ≤ 16384) (hp : p < 2 ^ 64) (h : prob p = true) : Calls Try.prog 61 #[.int .i64 m, .float .f64 p] w (Made m p w) := by
  have ok := ok_abs hm hp h
  obtain ⟨n, st⟩ := ok.start
  have hl := begun_lt ok st
  obtain ⟨hf, h0, _⟩ := prob_fin hp h
  have hz : (FloatKind.f64.format.order p 0 == some Ordering.eq) = true ↔ fv p = fv 0 := feq_iff hf isFin_zero
  rw [fv_zero] at hz
  by_cases hz0 : fv p = 0
  · have e := abs_of_zero hf hz0
    unfold Made
    rw [e] at ok st hl ⊢
    by_cases hlt : n < m
    · rw [decide_eq_true hlt] at hl
      exact weights_z m p w ok n st hlt (hz.2 hz0) hl
    · rw [decide_eq_false hlt] at hl
      exact weights_d m p w ok n st (by omega) (hz.2 hz0) hl
  · have e := abs_of_pos hf (by grind)
    have hz1 : (FloatKind.f64.format.order p 0 == some Ordering.eq) = false := by
      rw [Bool.eq_false_iff]; intro h; exact hz0 (hz.1 h)
    unfold Made
    rw [e] at ok st hl ⊢
    by_cases hlt : n < m
    · rw [decide_eq_true hlt] at hl
      exact weights_a m p w ok n st hlt hz1 hl
    · rw [decide_eq_false hlt] at hl
      exact weights_b m p w ok n st (by omega) hz1 hl
/-- seepageref31.weights. -/
theorem refw_c (m p : Nat) (w : World) (hm : m ≤ 16384) (hp : p < 2 ^ 64) (h : prob p = true) : Calls Try.prog 63 #[.int .i64 m, .float .f64 (absb p)] w (Made m p w) := by
  have ok := ok_abs hm hp h
  obtain ⟨n, st⟩ := ok.start
  by_cases hlt : n ≤ m
  · exact refw_a m (absb p) w ok n st hlt
  · exact refw_b m (absb p) w ok n st (by omega)
end Go.Proofs.Ytcgoicijbmhmpaa
