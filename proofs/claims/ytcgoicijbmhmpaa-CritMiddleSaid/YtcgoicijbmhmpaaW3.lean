/-
  The walk through the program's weights: the list it returns, in all four forms.
-/
import Derived.Test.YtcgoicijbmhmpaaW2
import Derived.Test.YtcgoicijbmhmpaaWts
import Derived.Deep.OwnRows
import Derived.Deep.DeepFit
namespace Go.Proofs.Ytcgoicijbmhmpaa
open Go.RowKit Go.Fl Go.Deep

theorem Try.info22 : (Try.prog.info? 22).map (fun i => (i.zero, i.size, i.bytes)) = some (some (.float .f64 0), 1, 8) := by kernel_rfl
theorem run_mk (n : Nat) (hn : n ≤ 16385) (w : World) :
    (Instr.makeSlice 24 (.int .i64 (n : Int)) (.int .i64 (n : Int))).run Try.prog w = .ok (.slice (some ⟨w.heap.size, 0, none⟩) n n) (w.alloc (.cells (madeCells #[.float .f64 0] n) 22)) :=
  run_make_row' 24 22 (.float .f64 0) 8 Try.underlying24 Try.info22 rfl .i64 .i64 n (by omega) (by omega) w
def fl (f : Nat → Nat) : Nat → Value := fun i => .float .f64 (f i)

/-- What lies in memory between two rounds: the row, the variable 'w', and nothing old has turned. -/
def Rows3 (w : World) (m : Nat) (f : Nat → Nat) (wr : World) : Prop :=
  wr.rowIs w.heap.size 22 (m + 1) (fl f) ∧ wr.rowIs (w.heap.size + 1) 24 1 (fun _ => .slice (some ⟨w.heap.size, 0, none⟩) (m + 1) (m + 1)) ∧ Below w.heap.size w wr
theorem Rows3.row {w wr : World} {m i : Nat} {f : Nat → Nat} (h : Rows3 w m f wr) (hi : i < m + 1) : wr.cell? ⟨w.heap.size, i, none⟩ = some (.float .f64 (f i)) := h.1.cell hi
theorem Rows3.frozen {w wr : World} {m : Nat} {f : Nat → Nat} (h : Rows3 w m f wr) (i : Nat) : wr.frozen? ⟨w.heap.size, i, none⟩ = false := h.1.frozen i
theorem Rows3.box {w wr : World} {m : Nat} {f : Nat → Nat} (h : Rows3 w m f wr) : wr.cell? ⟨w.heap.size + 1, 0, none⟩ = some (.slice (some ⟨w.heap.size, 0, none⟩) (m + 1) (m + 1)) := h.2.1.cell (i := 0) (by omega)
theorem Rows3.set {w wr : World} {m : Nat} {f g : Nat → Nat} (h : Rows3 w m f wr) (i x : Nat) (hg : ∀ j, j < m + 1 → (if j = i then x else f j) = g j) :
    Rows3 w m g (wr.setCell ⟨w.heap.size, i, none⟩ (.float .f64 x)) := by
  refine ⟨(h.1.set i (.float .f64 x)).congr fun j hj => ?_, h.2.1.setOther (by show w.heap.size + 1 ≠ w.heap.size; omega) _, h.2.2.setCell (Nat.le_refl _) _⟩
  unfold fl
  rw [← hg j hj]
  split <;> rfl
theorem Rows3.congr {w wr : World} {m : Nat} {f g : Nat → Nat} (h : Rows3 w m f wr) (hg : ∀ j, j < m + 1 → f j = g j) : Rows3 w m g wr :=
  ⟨h.1.congr fun j hj => by unfold fl; rw [hg j hj], h.2.1, h.2.2⟩
theorem Rows3.drew {w wr : World} {m : Nat} {f : Nat → Nat} (h : Rows3 w m f wr) : Rows3 w m f wr.drew := ⟨h.1.drew, h.2.1.drew, h.2.2.drew⟩

attribute [local go_sem] run_store_float
set_option maxHeartbeats 2000000 in
set_option maxRecDepth 100000 in
theorem weights_a (m p : Nat) (w : World) (h : Ok m p) (n : Nat) (st : Begun m p n) (hlt : n < m)
    (hz : (FloatKind.f64.format.order p 0 == some Ordering.eq) = false)
    (hl : (FloatKind.f64.format.order (floorB (prod1 m p)) (floatOfInt .f64 (m : Int)) == some Ordering.lt) = true) :
    Calls Try.prog 61 #[.int .i64 m, .float .f64 p] w fun e w' => e = .returned (.slice (some ⟨w.heap.size, 0, none⟩) (m + 1) (m + 1)) ∧
      w'.rowIs w.heap.size 22 (m + 1) (fl (wt m p)) ∧ Below w.heap.size w w' := by
  have hm := h.m
  have hmk : ∀ W, (Instr.makeSlice 24 (.int .i64 ((m : Int) + 1)) (.int .i64 ((m : Int) + 1))).run Try.prog W = .ok (.slice (some ⟨W.heap.size, 0, none⟩) (m + 1) (m + 1)) (W.alloc (.cells (madeCells #[.float .f64 0] (m + 1)) 22)) :=
    fun W => by have := run_mk (m + 1) (by omega) W; rw [show ((m + 1 : Nat) : Int) = (m : Int) + 1 by omega] at this; exact this
  have hmul : ∀ ty W, (binOp .mul ty (.float .f64 (floatOfInt .f64 ((m : Int) + 1))) (.float .f64 p)).run Try.prog W = .ok (.float .f64 (prod1 m p)) W := by
    intro ty W
    have := run_float_arith (P := Try.prog) W .mul ty .f64 _ _ _ st.mul
    rw [show ((m + 1 : Nat) : Int) = (m : Int) + 1 by omega] at this
    exact this
  obtain ⟨s, mm, e, hd, he⟩ := st.num
  have hconv : ∀ W, (convert 22 3 (.float .f64 (floorB (prod1 m p)))).run Try.prog W = .ok (.int .i64 (n : Int)) W :=
    fun W => run_convert_float_int W 22 3 .f64 .i64 _ _ (by rw [Try.underlying22]; rfl) Try.underlying3 st.int
  have HC := Lib.hid (fun W => floor_any (prod1 m p) W s mm e hd)
  rw [he] at HC
  have HE := Lib.hid he
  have ST := Lib.hid st
  clear he hd st
  have l1 : (n : Int) < (m : Int) + 1 := by omega
  have hK : kz m p = n := by rw [ST.out.kz]; omega
  have HK := Lib.hid hK
  clear hK
  have R0 := ((World.rowIs_made w (.float .f64 0) (m + 1) 22).alloc (.cells #[Value.slice (some ⟨w.heap.size, 0, none⟩) (m + 1) (m + 1)] 24))
  have hc1 := R0.cell (i := n) (by omega)
  have hf1 := R0.frozen n
  have HR := Lib.hid R0
  clear R0
  go_enter Try.func61, Try.ntmps61
  go_wp2_with (go_at_call 85; refine (HC.out _).mono ?_; rintro e w' ⟨rfl, rfl⟩)
  have HL : Rows3 w m (fun i => if n ≤ i ∧ i ≤ n then raw m p i else 0) (((w.alloc (.cells (madeCells #[Value.float .f64 0] (m + 1)) 22)).alloc (.cells #[Value.slice (some ⟨w.heap.size, 0, none⟩) (m + 1) (m + 1)] 24)).setCell ⟨w.heap.size, n, none⟩ (.float .f64 4607182418800017408)) := by
    refine Rows3.set (f := fun _ => 0) ⟨HR.out, ?_, ?_⟩ n 4607182418800017408 ?_
    · have := World.rowIs_alloc (w.alloc (.cells (madeCells #[Value.float .f64 0] (m + 1)) 22)) #[Value.slice (some ⟨w.heap.size, 0, none⟩) (m + 1) (m + 1)] 24 (fun _ => Value.slice (some ⟨w.heap.size, 0, none⟩) (m + 1) (m + 1)) (by intro i hi; simp at hi; subst hi; rfl)
      simpa using this
    · exact ((Below.refl _ w).alloc (Nat.le_refl _) _).alloc (by simp) _
    · intro j _
      by_cases hj : j = n
      · have hr := raw_kz m p; rw [HK.out] at hr; rw [hj, if_pos rfl, if_pos ⟨Nat.le_refl _, Nat.le_refl _⟩, hr]; rfl
      · rw [if_neg hj, if_neg (by omega)]
  rw [World.setCell_alloc_past _ _ _ _ (by simp), World.setCell_alloc_at _ _ _ _ _ rfl] at HL
  go_loopw [9] (fun v wr => ∃ k : Nat, n ≤ k ∧ k ≤ m ∧ v = .int .i64 k ∧ Rows3 w m (fun i => if n ≤ i ∧ i ≤ k then raw m p i else 0) wr) (fun v _ => m - (intOf v).toNat)
  case atStart => exact ⟨n, Nat.le_refl _, by omega, rfl, HL⟩
  case round =>
    clear HL hc1 hf1 hmul hconv hmk
    obtain ⟨k, hk1, hk2, rfl, hL⟩ := hrel
    by_cases hkm : k < m
    · obtain ⟨o1, o2, o3, o4, o5⟩ := raw_up_ops h (k := k) (by rw [HK.out]; exact hk1) hkm
      have c1 := hL.box
      have hsub := fun ty W => run_float_arith (P := Try.prog) W .sub ty .f64 _ _ _ o1
      have hquo := fun ty W => run_float_arith (P := Try.prog) W .quo ty .f64 _ _ _ o2
      unfold one at hsub hquo
      have r1 := hL.row (i := k) (by omega)
      rw [if_pos ⟨hk1, Nat.le_refl _⟩] at r1
      have CP := Lib.hid (put_i (ki := (k : Int) + 1) (fi := k) (ai := (m : Int) - k) (bi := (k : Int) + 1) (k := k + 1) (from_ := k) (above := m - k) (below := k + 1) (by omega) rfl (by omega) (by omega)
        (odds := oddU p) (Bw := w.heap.size + 1) (g := w.heap.size) (n := m + 1) (w := wr) (by omega) (by omega) (by omega) c1 r1 (hL.row (i := k + 1) (by omega)) (hL.frozen _) o3 o4 o5)
      have HN : Rows3 w m (fun i => if n ≤ i ∧ i ≤ k + 1 then raw m p i else 0) ((wr.setCell ⟨w.heap.size, k + 1, none⟩ (.float .f64 (raw m p (k + 1)))).drew) := by
        refine (hL.set (k + 1) (raw m p (k + 1)) fun j _ => ?_).drew
        by_cases hj : j = k + 1
        · subst hj; rw [if_pos rfl, if_pos ⟨by omega, Nat.le_refl _⟩]
        · rw [if_neg hj]
          by_cases hj2 : n ≤ j ∧ j ≤ k
          · rw [if_pos hj2, if_pos ⟨hj2.1, by omega⟩]
          · rw [if_neg hj2, if_neg (by omega)]
      clear o1 o2 o3 o4 o5 r1
      go_wp2_with (go_at_call 86; refine CP.out.mono ?_; rintro e w' ⟨rfl, rfl⟩)
      go_roundw
      case rel => exact ⟨k + 1, by omega, by omega, by go_num, HN⟩
      case measure => simp [intOf]; omega
    · have hkm' : k = m := by omega
      have HL2 : Rows3 w m (fun i => if n ≤ i then raw m p i else 0) wr := by
        refine hL.congr fun j hj => ?_
        by_cases hj2 : n ≤ j
        · rw [if_pos hj2, if_pos ⟨hj2, by omega⟩]
        · rw [if_neg hj2, if_neg (by omega)]
      clear hL hkm'
      go_wp2
      obtain ⟨wo, rfl⟩ : ∃ wo : World, wo = wr := ⟨_, rfl⟩
      go_loopw [10] (fun v wr => ∃ k : Nat, k ≤ n ∧ v = .int .i64 k ∧ Rows3 w m (fun i => if k ≤ i then raw m p i else 0) wr) (fun v _ => (intOf v).toNat)
      case atStart => exact ⟨n, Nat.le_refl _, rfl, HL2⟩
      case round =>
        clear HL2 hk1 hk2 hkm
        obtain ⟨k, hk1, rfl, hL⟩ := hrel
        cases k with
        | succ k =>
          obtain ⟨o1, o2, o3, o4, o5⟩ := raw_dn_ops h (k := k) (by rw [HK.out]; omega)
          have c1 := hL.box
          have hsub := fun ty W => run_float_arith (P := Try.prog) W .sub ty .f64 _ _ _ o1
          have hquo := fun ty W => run_float_arith (P := Try.prog) W .quo ty .f64 _ _ _ o2
          unfold one at hsub hquo
          have r1 := hL.row (i := k + 1) (by omega)
          rw [if_pos (Nat.le_refl _)] at r1
          have CP := Lib.hid (put_i (ki := (k : Int)) (fi := (k : Int) + 1) (ai := (k : Int) + 1) (bi := (m : Int) - (k + 1) + 1) (k := k) (from_ := k + 1) (above := k + 1) (below := m - (k + 1) + 1) rfl (by omega) (by omega) (by omega)
            (odds := oddD p) (Bw := w.heap.size + 1) (g := w.heap.size) (n := m + 1) (w := wr) (by omega) (by omega) (by omega) c1 r1 (hL.row (i := k) (by omega)) (hL.frozen _) o3 o4 o5)
          have HN : Rows3 w m (fun i => if k ≤ i then raw m p i else 0) ((wr.setCell ⟨w.heap.size, k, none⟩ (.float .f64 (raw m p k))).drew) := by
            refine (hL.set k (raw m p k) fun j _ => ?_).drew
            by_cases hj : j = k
            · subst hj; rw [if_pos rfl, if_pos (Nat.le_refl _)]
            · rw [if_neg hj]
              by_cases hj2 : k + 1 ≤ j
              · rw [if_pos hj2, if_pos (by omega)]
              · rw [if_neg hj2, if_neg (by omega)]
          clear o1 o2 o3 o4 o5 r1
          go_wp2_with (go_at_call 86; refine CP.out.mono ?_; rintro e w' ⟨rfl, rfl⟩)
          go_roundw
          case rel => exact ⟨k, by omega, by go_num, HN⟩
          case measure => simp [intOf]
        | zero =>
          have HL3 : Rows3 w m (raw m p) wr := hL.congr fun j _ => if_pos (Nat.zero_le j)
          clear hL hk1
          have c1 := HL3.box
          go_wp2
          obtain ⟨wo, rfl⟩ : ∃ wo : World, wo = wr := ⟨_, rfl⟩
          go_loop [11, 78] (fun s i => ∃ k : Nat, k ≤ m + 1 ∧ i = .int .i64 k ∧ s = .float .f64 (psum (raw m p) k)) (fun _ i => m + 1 - (intOf i).toNat)
          case atStart => exact ⟨0, Nat.zero_le _, rfl, rfl⟩
          case round =>
            obtain ⟨k, hk, rfl, rfl⟩ := hrel
            by_cases hkm : k < m + 1
            · have r1 := HL3.row hkm
              have hadd := fun ty W => run_float_arith (P := Try.prog) W .add ty .f64 _ _ _ (((psum_ok (n := m + 1) (by omega) (raw_all h) k (by omega)).2.2.2 hkm).1)
              have l2 : (k : Int) < (m : Int) + 1 := by omega
              go_wp2
              go_round
              case rel => exact ⟨k + 1, by omega, by go_num, rfl⟩
              case measure => simp [intOf]; omega
            · have l2 : ¬ (k : Int) < (m : Int) + 1 := by omega
              have hkk : k = m + 1 := by omega
              subst hkk
              go_wp2
              obtain ⟨wo, rfl⟩ : ∃ wo' : World, wo' = wo := ⟨_, rfl⟩
              go_loopw [88] (fun i wr => ∃ k : Nat, k ≤ m + 1 ∧ i = .int .i64 k ∧ Rows3 w m (fun j => if j < k then wt m p j else raw m p j) wr) (fun i _ => m + 1 - (intOf i).toNat)
              case atStart => exact ⟨0, Nat.zero_le _, rfl, HL3.congr fun j _ => by rw [if_neg (by omega)]⟩
              case round =>
                clear HL3 c1 l2 hk hkm
                obtain ⟨k, hk, rfl, hL⟩ := hrel
                have c1 := hL.box
                by_cases hkm : k < m + 1
                · have r1 := hL.row hkm
                  have f1 := hL.frozen k
                  rw [if_neg (Nat.lt_irrefl k)] at r1
                  have hq := (wt_ok h (k := k) (by omega)).1
                  unfold total at hq
                  have hquo := fun ty W => run_float_arith (P := Try.prog) W .quo ty .f64 _ _ _ hq
                  clear hq
                  have l2 : (k : Int) < (m : Int) + 1 := by omega
                  have HN : Rows3 w m (fun j => if j < k + 1 then wt m p j else raw m p j) (wr.setCell ⟨w.heap.size, k, none⟩ (.float .f64 (wt m p k))) := by
                    refine hL.set k (wt m p k) fun j _ => ?_
                    by_cases hj : j = k
                    · subst hj; rw [if_pos rfl, if_pos (by omega)]
                    · rw [if_neg hj]
                      by_cases hj2 : j < k
                      · rw [if_pos hj2, if_pos (by omega)]
                      · rw [if_neg hj2, if_neg (by omega)]
                  go_wp2
                  go_roundw
                  case rel => exact ⟨k + 1, by omega, by go_num, HN⟩
                  case measure => simp [intOf]; omega
                · have l2 : ¬ (k : Int) < (m : Int) + 1 := by omega
                  have HF : Rows3 w m (wt m p) wr := hL.congr fun j hj => if_pos (by omega)
                  clear hL
                  go_wp2
                  go_ret
                  exact ⟨rfl, HF.1, HF.2.2⟩

set_option maxHeartbeats 2000000 in
set_option maxRecDepth 100000 in
theorem weights_b (m p : Nat) (w : World) (h : Ok m p) (n : Nat) (st : Begun m p n) (hlt : m ≤ n)
    (hz : (FloatKind.f64.format.order p 0 == some Ordering.eq) = false)
    (hl : (FloatKind.f64.format.order (floorB (prod1 m p)) (floatOfInt .f64 (m : Int)) == some Ordering.lt) = false) :
    Calls Try.prog 61 #[.int .i64 m, .float .f64 p] w fun e w' => e = .returned (.slice (some ⟨w.heap.size, 0, none⟩) (m + 1) (m + 1)) ∧
      w'.rowIs w.heap.size 22 (m + 1) (fl (wt m p)) ∧ Below w.heap.size w w' := by
  have hm := h.m
  have hmk : ∀ W, (Instr.makeSlice 24 (.int .i64 ((m : Int) + 1)) (.int .i64 ((m : Int) + 1))).run Try.prog W = .ok (.slice (some ⟨W.heap.size, 0, none⟩) (m + 1) (m + 1)) (W.alloc (.cells (madeCells #[.float .f64 0] (m + 1)) 22)) :=
    fun W => by have := run_mk (m + 1) (by omega) W; rw [show ((m + 1 : Nat) : Int) = (m : Int) + 1 by omega] at this; exact this
  have hmul : ∀ ty W, (binOp .mul ty (.float .f64 (floatOfInt .f64 ((m : Int) + 1))) (.float .f64 p)).run Try.prog W = .ok (.float .f64 (prod1 m p)) W := by
    intro ty W
    have := run_float_arith (P := Try.prog) W .mul ty .f64 _ _ _ st.mul
    rw [show ((m + 1 : Nat) : Int) = (m : Int) + 1 by omega] at this
    exact this
  obtain ⟨s, mm, e, hd, he⟩ := st.num
  have HC := Lib.hid (fun W => floor_any (prod1 m p) W s mm e hd)
  rw [he] at HC
  have HE := Lib.hid he
  have ST := Lib.hid st
  clear he hd st
  have l1 : (m : Int) < (m : Int) + 1 := by omega
  have hK : kz m p = m := by rw [ST.out.kz]; omega
  have HK := Lib.hid hK
  clear hK
  have R0 := ((World.rowIs_made w (.float .f64 0) (m + 1) 22).alloc (.cells #[Value.slice (some ⟨w.heap.size, 0, none⟩) (m + 1) (m + 1)] 24))
  have hc1 := R0.cell (i := m) (by omega)
  have hf1 := R0.frozen m
  have HR := Lib.hid R0
  clear R0
  go_enter Try.func61, Try.ntmps61
  go_wp2_with (go_at_call 85; refine (HC.out _).mono ?_; rintro e w' ⟨rfl, rfl⟩)
  have HL : Rows3 w m (fun i => if m ≤ i ∧ i ≤ m then raw m p i else 0) (((w.alloc (.cells (madeCells #[Value.float .f64 0] (m + 1)) 22)).alloc (.cells #[Value.slice (some ⟨w.heap.size, 0, none⟩) (m + 1) (m + 1)] 24)).setCell ⟨w.heap.size, m, none⟩ (.float .f64 4607182418800017408)) := by
    refine Rows3.set (f := fun _ => 0) ⟨HR.out, ?_, ?_⟩ m 4607182418800017408 ?_
    · have := World.rowIs_alloc (w.alloc (.cells (madeCells #[Value.float .f64 0] (m + 1)) 22)) #[Value.slice (some ⟨w.heap.size, 0, none⟩) (m + 1) (m + 1)] 24 (fun _ => Value.slice (some ⟨w.heap.size, 0, none⟩) (m + 1) (m + 1)) (by intro i hi; simp at hi; subst hi; rfl)
      simpa using this
    · exact ((Below.refl _ w).alloc (Nat.le_refl _) _).alloc (by simp) _
    · intro j _
      by_cases hj : j = m
      · have hr := raw_kz m p; rw [HK.out] at hr; rw [hj, if_pos rfl, if_pos ⟨Nat.le_refl _, Nat.le_refl _⟩, hr]; rfl
      · rw [if_neg hj, if_neg (by omega)]
  rw [World.setCell_alloc_past _ _ _ _ (by simp), World.setCell_alloc_at _ _ _ _ _ rfl] at HL
  go_loopw [9] (fun v wr => ∃ k : Nat, m ≤ k ∧ k ≤ m ∧ v = .int .i64 k ∧ Rows3 w m (fun i => if m ≤ i ∧ i ≤ k then raw m p i else 0) wr) (fun v _ => m - (intOf v).toNat)
  case atStart => exact ⟨m, Nat.le_refl _, by omega, rfl, HL⟩
  case round =>
    clear HL hc1 hf1 hmul hmk
    obtain ⟨k, hk1, hk2, rfl, hL⟩ := hrel
    by_cases hkm : k < m
    · obtain ⟨o1, o2, o3, o4, o5⟩ := raw_up_ops h (k := k) (by rw [HK.out]; exact hk1) hkm
      have c1 := hL.box
      have hsub := fun ty W => run_float_arith (P := Try.prog) W .sub ty .f64 _ _ _ o1
      have hquo := fun ty W => run_float_arith (P := Try.prog) W .quo ty .f64 _ _ _ o2
      unfold one at hsub hquo
      have r1 := hL.row (i := k) (by omega)
      rw [if_pos ⟨hk1, Nat.le_refl _⟩] at r1
      have CP := Lib.hid (put_i (ki := (k : Int) + 1) (fi := k) (ai := (m : Int) - k) (bi := (k : Int) + 1) (k := k + 1) (from_ := k) (above := m - k) (below := k + 1) (by omega) rfl (by omega) (by omega)
        (odds := oddU p) (Bw := w.heap.size + 1) (g := w.heap.size) (n := m + 1) (w := wr) (by omega) (by omega) (by omega) c1 r1 (hL.row (i := k + 1) (by omega)) (hL.frozen _) o3 o4 o5)
      have HN : Rows3 w m (fun i => if m ≤ i ∧ i ≤ k + 1 then raw m p i else 0) ((wr.setCell ⟨w.heap.size, k + 1, none⟩ (.float .f64 (raw m p (k + 1)))).drew) := by
        refine (hL.set (k + 1) (raw m p (k + 1)) fun j _ => ?_).drew
        by_cases hj : j = k + 1
        · subst hj; rw [if_pos rfl, if_pos ⟨by omega, Nat.le_refl _⟩]
        · rw [if_neg hj]
          by_cases hj2 : m ≤ j ∧ j ≤ k
          · rw [if_pos hj2, if_pos ⟨hj2.1, by omega⟩]
          · rw [if_neg hj2, if_neg (by omega)]
      clear o1 o2 o3 o4 o5 r1
      go_wp2_with (go_at_call 86; refine CP.out.mono ?_; rintro e w' ⟨rfl, rfl⟩)
      go_roundw
      case rel => exact ⟨k + 1, by omega, by omega, by go_num, HN⟩
      case measure => simp [intOf]; omega
    · have hkm' : k = m := by omega
      have HL2 : Rows3 w m (fun i => if m ≤ i then raw m p i else 0) wr := by
        refine hL.congr fun j hj => ?_
        by_cases hj2 : m ≤ j
        · rw [if_pos hj2, if_pos ⟨hj2, by omega⟩]
        · rw [if_neg hj2, if_neg (by omega)]
      clear hL hkm'
      go_wp2
      obtain ⟨wo, rfl⟩ : ∃ wo : World, wo = wr := ⟨_, rfl⟩
      go_loopw [10] (fun v wr => ∃ k : Nat, k ≤ m ∧ v = .int .i64 k ∧ Rows3 w m (fun i => if k ≤ i then raw m p i else 0) wr) (fun v _ => (intOf v).toNat)
      case atStart => exact ⟨m, Nat.le_refl _, rfl, HL2⟩
      case round =>
        clear HL2 hk1 hk2 hkm
        obtain ⟨k, hk1, rfl, hL⟩ := hrel
        cases k with
        | succ k =>
          obtain ⟨o1, o2, o3, o4, o5⟩ := raw_dn_ops h (k := k) (by rw [HK.out]; omega)
          have c1 := hL.box
          have hsub := fun ty W => run_float_arith (P := Try.prog) W .sub ty .f64 _ _ _ o1
          have hquo := fun ty W => run_float_arith (P := Try.prog) W .quo ty .f64 _ _ _ o2
          unfold one at hsub hquo
          have r1 := hL.row (i := k + 1) (by omega)
          rw [if_pos (Nat.le_refl _)] at r1
          have CP := Lib.hid (put_i (ki := (k : Int)) (fi := (k : Int) + 1) (ai := (k : Int) + 1) (bi := (m : Int) - (k + 1) + 1) (k := k) (from_ := k + 1) (above := k + 1) (below := m - (k + 1) + 1) rfl (by omega) (by omega) (by omega)
            (odds := oddD p) (Bw := w.heap.size + 1) (g := w.heap.size) (n := m + 1) (w := wr) (by omega) (by omega) (by omega) c1 r1 (hL.row (i := k) (by omega)) (hL.frozen _) o3 o4 o5)
          have HN : Rows3 w m (fun i => if k ≤ i then raw m p i else 0) ((wr.setCell ⟨w.heap.size, k, none⟩ (.float .f64 (raw m p k))).drew) := by
            refine (hL.set k (raw m p k) fun j _ => ?_).drew
            by_cases hj : j = k
            · subst hj; rw [if_pos rfl, if_pos (Nat.le_refl _)]
            · rw [if_neg hj]
              by_cases hj2 : k + 1 ≤ j
              · rw [if_pos hj2, if_pos (by omega)]
              · rw [if_neg hj2, if_neg (by omega)]
          clear o1 o2 o3 o4 o5 r1
          go_wp2_with (go_at_call 86; refine CP.out.mono ?_; rintro e w' ⟨rfl, rfl⟩)
          go_roundw
          case rel => exact ⟨k, by omega, by go_num, HN⟩
          case measure => simp [intOf]
        | zero =>
          have HL3 : Rows3 w m (raw m p) wr := hL.congr fun j _ => if_pos (Nat.zero_le j)
          clear hL hk1
          have c1 := HL3.box
          go_wp2
          obtain ⟨wo, rfl⟩ : ∃ wo : World, wo = wr := ⟨_, rfl⟩
          go_loop [11, 78] (fun s i => ∃ k : Nat, k ≤ m + 1 ∧ i = .int .i64 k ∧ s = .float .f64 (psum (raw m p) k)) (fun _ i => m + 1 - (intOf i).toNat)
          case atStart => exact ⟨0, Nat.zero_le _, rfl, rfl⟩
          case round =>
            obtain ⟨k, hk, rfl, rfl⟩ := hrel
            by_cases hkm : k < m + 1
            · have r1 := HL3.row hkm
              have hadd := fun ty W => run_float_arith (P := Try.prog) W .add ty .f64 _ _ _ (((psum_ok (n := m + 1) (by omega) (raw_all h) k (by omega)).2.2.2 hkm).1)
              have l2 : (k : Int) < (m : Int) + 1 := by omega
              go_wp2
              go_round
              case rel => exact ⟨k + 1, by omega, by go_num, rfl⟩
              case measure => simp [intOf]; omega
            · have l2 : ¬ (k : Int) < (m : Int) + 1 := by omega
              have hkk : k = m + 1 := by omega
              subst hkk
              go_wp2
              obtain ⟨wo, rfl⟩ : ∃ wo' : World, wo' = wo := ⟨_, rfl⟩
              go_loopw [88] (fun i wr => ∃ k : Nat, k ≤ m + 1 ∧ i = .int .i64 k ∧ Rows3 w m (fun j => if j < k then wt m p j else raw m p j) wr) (fun i _ => m + 1 - (intOf i).toNat)
              case atStart => exact ⟨0, Nat.zero_le _, rfl, HL3.congr fun j _ => by rw [if_neg (by omega)]⟩
              case round =>
                clear HL3 c1 l2 hk hkm
                obtain ⟨k, hk, rfl, hL⟩ := hrel
                have c1 := hL.box
                by_cases hkm : k < m + 1
                · have r1 := hL.row hkm
                  have f1 := hL.frozen k
                  rw [if_neg (Nat.lt_irrefl k)] at r1
                  have hq := (wt_ok h (k := k) (by omega)).1
                  unfold total at hq
                  have hquo := fun ty W => run_float_arith (P := Try.prog) W .quo ty .f64 _ _ _ hq
                  clear hq
                  have l2 : (k : Int) < (m : Int) + 1 := by omega
                  have HN : Rows3 w m (fun j => if j < k + 1 then wt m p j else raw m p j) (wr.setCell ⟨w.heap.size, k, none⟩ (.float .f64 (wt m p k))) := by
                    refine hL.set k (wt m p k) fun j _ => ?_
                    by_cases hj : j = k
                    · subst hj; rw [if_pos rfl, if_pos (by omega)]
                    · rw [if_neg hj]
                      by_cases hj2 : j < k
                      · rw [if_pos hj2, if_pos (by omega)]
                      · rw [if_neg hj2, if_neg (by omega)]
                  go_wp2
                  go_roundw
                  case rel => exact ⟨k + 1, by omega, by go_num, HN⟩
                  case measure => simp [intOf]; omega
                · have l2 : ¬ (k : Int) < (m : Int) + 1 := by omega
                  have HF : Rows3 w m (wt m p) wr := hL.congr fun j hj => if_pos (by omega)
                  clear hL
                  go_wp2
                  go_ret
                  exact ⟨rfl, HF.1, HF.2.2⟩

set_option maxHeartbeats 2000000 in
set_option maxRecDepth 100000 in
theorem weights_z (m z : Nat) (w : World) (h : Ok m 0) (n : Nat) (st : Begun m 0 n) (hlt : n < m)
    (hz : (FloatKind.f64.format.order z 0 == some Ordering.eq) = true)
    (hl : (FloatKind.f64.format.order (floorB (prod1 m 0)) (floatOfInt .f64 (m : Int)) == some Ordering.lt) = true) :
    Calls Try.prog 61 #[.int .i64 m, .float .f64 z] w fun e w' => e = .returned (.slice (some ⟨w.heap.size, 0, none⟩) (m + 1) (m + 1)) ∧
      w'.rowIs w.heap.size 22 (m + 1) (fl (wt m 0)) ∧ Below w.heap.size w w' := by
  have hm := h.m
  have hmk : ∀ W, (Instr.makeSlice 24 (.int .i64 ((m : Int) + 1)) (.int .i64 ((m : Int) + 1))).run Try.prog W = .ok (.slice (some ⟨W.heap.size, 0, none⟩) (m + 1) (m + 1)) (W.alloc (.cells (madeCells #[.float .f64 0] (m + 1)) 22)) :=
    fun W => by have := run_mk (m + 1) (by omega) W; rw [show ((m + 1 : Nat) : Int) = (m : Int) + 1 by omega] at this; exact this
  have hmul : ∀ ty W, (binOp .mul ty (.float .f64 (floatOfInt .f64 ((m : Int) + 1))) (.float .f64 0)).run Try.prog W = .ok (.float .f64 (prod1 m 0)) W := by
    intro ty W
    have := run_float_arith (P := Try.prog) W .mul ty .f64 _ _ _ st.mul
    rw [show ((m + 1 : Nat) : Int) = (m : Int) + 1 by omega] at this
    exact this
  obtain ⟨s, mm, e, hd, he⟩ := st.num
  have hconv : ∀ W, (convert 22 3 (.float .f64 (floorB (prod1 m 0)))).run Try.prog W = .ok (.int .i64 (n : Int)) W :=
    fun W => run_convert_float_int W 22 3 .f64 .i64 _ _ (by rw [Try.underlying22]; rfl) Try.underlying3 st.int
  have HC := Lib.hid (fun W => floor_any (prod1 m 0) W s mm e hd)
  rw [he] at HC
  have HE := Lib.hid he
  have ST := Lib.hid st
  clear he hd st
  have l1 : (n : Int) < (m : Int) + 1 := by omega
  have hK : kz m 0 = n := by rw [ST.out.kz]; omega
  have HK := Lib.hid hK
  clear hK
  have R0 := ((World.rowIs_made w (.float .f64 0) (m + 1) 22).alloc (.cells #[Value.slice (some ⟨w.heap.size, 0, none⟩) (m + 1) (m + 1)] 24))
  have hc1 := R0.cell (i := n) (by omega)
  have hf1 := R0.frozen n
  have HR := Lib.hid R0
  clear R0
  go_enter Try.func61, Try.ntmps61
  go_wp2_with (go_at_call 85; refine (HC.out _).mono ?_; rintro e w' ⟨rfl, rfl⟩)
  have HL : Rows3 w m (fun i => if n ≤ i ∧ i ≤ n then raw m 0 i else 0) (((w.alloc (.cells (madeCells #[Value.float .f64 0] (m + 1)) 22)).alloc (.cells #[Value.slice (some ⟨w.heap.size, 0, none⟩) (m + 1) (m + 1)] 24)).setCell ⟨w.heap.size, n, none⟩ (.float .f64 4607182418800017408)) := by
    refine Rows3.set (f := fun _ => 0) ⟨HR.out, ?_, ?_⟩ n 4607182418800017408 ?_
    · have := World.rowIs_alloc (w.alloc (.cells (madeCells #[Value.float .f64 0] (m + 1)) 22)) #[Value.slice (some ⟨w.heap.size, 0, none⟩) (m + 1) (m + 1)] 24 (fun _ => Value.slice (some ⟨w.heap.size, 0, none⟩) (m + 1) (m + 1)) (by intro i hi; simp at hi; subst hi; rfl)
      simpa using this
    · exact ((Below.refl _ w).alloc (Nat.le_refl _) _).alloc (by simp) _
    · intro j _
      by_cases hj : j = n
      · have hr := raw_kz m 0; rw [HK.out] at hr; rw [hj, if_pos rfl, if_pos ⟨Nat.le_refl _, Nat.le_refl _⟩, hr]; rfl
      · rw [if_neg hj, if_neg (by omega)]
  rw [World.setCell_alloc_past _ _ _ _ (by simp), World.setCell_alloc_at _ _ _ _ _ rfl] at HL
  go_loopw [9] (fun v wr => ∃ k : Nat, n ≤ k ∧ k ≤ m ∧ v = .int .i64 k ∧ Rows3 w m (fun i => if n ≤ i ∧ i ≤ k then raw m 0 i else 0) wr) (fun v _ => m - (intOf v).toNat)
  case atStart => exact ⟨n, Nat.le_refl _, by omega, rfl, HL⟩
  case round =>
    clear HL hc1 hf1 hmul hconv hmk
    obtain ⟨k, hk1, hk2, rfl, hL⟩ := hrel
    by_cases hkm : k < m
    · obtain ⟨o1, o2, o3, o4, o5⟩ := raw_up_ops h (k := k) (by rw [HK.out]; exact hk1) hkm
      have c1 := hL.box
      have hsub := fun ty W => run_float_arith (P := Try.prog) W .sub ty .f64 _ _ _ o1
      have hquo := fun ty W => run_float_arith (P := Try.prog) W .quo ty .f64 _ _ _ o2
      unfold one at hsub hquo
      have r1 := hL.row (i := k) (by omega)
      rw [if_pos ⟨hk1, Nat.le_refl _⟩] at r1
      have CP := Lib.hid (put_i (ki := (k : Int) + 1) (fi := k) (ai := (m : Int) - k) (bi := (k : Int) + 1) (k := k + 1) (from_ := k) (above := m - k) (below := k + 1) (by omega) rfl (by omega) (by omega)
        (odds := oddU 0) (Bw := w.heap.size + 1) (g := w.heap.size) (n := m + 1) (w := wr) (by omega) (by omega) (by omega) c1 r1 (hL.row (i := k + 1) (by omega)) (hL.frozen _) o3 o4 o5)
      have HN : Rows3 w m (fun i => if n ≤ i ∧ i ≤ k + 1 then raw m 0 i else 0) ((wr.setCell ⟨w.heap.size, k + 1, none⟩ (.float .f64 (raw m 0 (k + 1)))).drew) := by
        refine (hL.set (k + 1) (raw m 0 (k + 1)) fun j _ => ?_).drew
        by_cases hj : j = k + 1
        · subst hj; rw [if_pos rfl, if_pos ⟨by omega, Nat.le_refl _⟩]
        · rw [if_neg hj]
          by_cases hj2 : n ≤ j ∧ j ≤ k
          · rw [if_pos hj2, if_pos ⟨hj2.1, by omega⟩]
          · rw [if_neg hj2, if_neg (by omega)]
      clear o1 o2 o3 o4 o5 r1
      go_wp2_with (go_at_call 86; refine CP.out.mono ?_; rintro e w' ⟨rfl, rfl⟩)
      go_roundw
      case rel => exact ⟨k + 1, by omega, by omega, by go_num, HN⟩
      case measure => simp [intOf]; omega
    · have hkm' : k = m := by omega
      have HL2 : Rows3 w m (fun i => if n ≤ i then raw m 0 i else 0) wr := by
        refine hL.congr fun j hj => ?_
        by_cases hj2 : n ≤ j
        · rw [if_pos hj2, if_pos ⟨hj2, by omega⟩]
        · rw [if_neg hj2, if_neg (by omega)]
      clear hL hkm'
      go_wp2
      obtain ⟨wo, rfl⟩ : ∃ wo : World, wo = wr := ⟨_, rfl⟩
      go_loopw [10] (fun v wr => ∃ k : Nat, k ≤ n ∧ v = .int .i64 k ∧ Rows3 w m (fun i => if k ≤ i then raw m 0 i else 0) wr) (fun v _ => (intOf v).toNat)
      case atStart => exact ⟨n, Nat.le_refl _, rfl, HL2⟩
      case round =>
        clear HL2 hk1 hk2 hkm
        obtain ⟨k, hk1, rfl, hL⟩ := hrel
        cases k with
        | succ k =>
          obtain ⟨o1, o2, o3, o4, o5⟩ := raw_dn_ops h (k := k) (by rw [HK.out]; omega)
          have c1 := hL.box
          have hsub := fun ty W => run_float_arith (P := Try.prog) W .sub ty .f64 _ _ _ o1
          have hquo := fun ty W => run_float_arith (P := Try.prog) W .quo ty .f64 _ _ _ o2
          unfold one at hsub hquo
          have r1 := hL.row (i := k + 1) (by omega)
          rw [if_pos (Nat.le_refl _)] at r1
          have CP := Lib.hid (put_i (ki := (k : Int)) (fi := (k : Int) + 1) (ai := (k : Int) + 1) (bi := (m : Int) - (k + 1) + 1) (k := k) (from_ := k + 1) (above := k + 1) (below := m - (k + 1) + 1) rfl (by omega) (by omega) (by omega)
            (odds := oddD 0) (Bw := w.heap.size + 1) (g := w.heap.size) (n := m + 1) (w := wr) (by omega) (by omega) (by omega) c1 r1 (hL.row (i := k) (by omega)) (hL.frozen _) o3 o4 o5)
          have HN : Rows3 w m (fun i => if k ≤ i then raw m 0 i else 0) ((wr.setCell ⟨w.heap.size, k, none⟩ (.float .f64 (raw m 0 k))).drew) := by
            refine (hL.set k (raw m 0 k) fun j _ => ?_).drew
            by_cases hj : j = k
            · subst hj; rw [if_pos rfl, if_pos (Nat.le_refl _)]
            · rw [if_neg hj]
              by_cases hj2 : k + 1 ≤ j
              · rw [if_pos hj2, if_pos (by omega)]
              · rw [if_neg hj2, if_neg (by omega)]
          clear o1 o2 o3 o4 o5 r1
          go_wp2_with (go_at_call 86; refine CP.out.mono ?_; rintro e w' ⟨rfl, rfl⟩)
          go_roundw
          case rel => exact ⟨k, by omega, by go_num, HN⟩
          case measure => simp [intOf]
        | zero =>
          have HL3 : Rows3 w m (raw m 0) wr := hL.congr fun j _ => if_pos (Nat.zero_le j)
          clear hL hk1
          have c1 := HL3.box
          go_wp2
          obtain ⟨wo, rfl⟩ : ∃ wo : World, wo = wr := ⟨_, rfl⟩
          go_loop [11, 78] (fun s i => ∃ k : Nat, k ≤ m + 1 ∧ i = .int .i64 k ∧ s = .float .f64 (psum (raw m 0) k)) (fun _ i => m + 1 - (intOf i).toNat)
          case atStart => exact ⟨0, Nat.zero_le _, rfl, rfl⟩
          case round =>
            obtain ⟨k, hk, rfl, rfl⟩ := hrel
            by_cases hkm : k < m + 1
            · have r1 := HL3.row hkm
              have hadd := fun ty W => run_float_arith (P := Try.prog) W .add ty .f64 _ _ _ (((psum_ok (n := m + 1) (by omega) (raw_all h) k (by omega)).2.2.2 hkm).1)
              have l2 : (k : Int) < (m : Int) + 1 := by omega
              go_wp2
              go_round
              case rel => exact ⟨k + 1, by omega, by go_num, rfl⟩
              case measure => simp [intOf]; omega
            · have l2 : ¬ (k : Int) < (m : Int) + 1 := by omega
              have hkk : k = m + 1 := by omega
              subst hkk
              go_wp2
              obtain ⟨wo, rfl⟩ : ∃ wo' : World, wo' = wo := ⟨_, rfl⟩
              go_loopw [88] (fun i wr => ∃ k : Nat, k ≤ m + 1 ∧ i = .int .i64 k ∧ Rows3 w m (fun j => if j < k then wt m 0 j else raw m 0 j) wr) (fun i _ => m + 1 - (intOf i).toNat)
              case atStart => exact ⟨0, Nat.zero_le _, rfl, HL3.congr fun j _ => by rw [if_neg (by omega)]⟩
              case round =>
                clear HL3 c1 l2 hk hkm
                obtain ⟨k, hk, rfl, hL⟩ := hrel
                have c1 := hL.box
                by_cases hkm : k < m + 1
                · have r1 := hL.row hkm
                  have f1 := hL.frozen k
                  rw [if_neg (Nat.lt_irrefl k)] at r1
                  have hq := (wt_ok h (k := k) (by omega)).1
                  unfold total at hq
                  have hquo := fun ty W => run_float_arith (P := Try.prog) W .quo ty .f64 _ _ _ hq
                  clear hq
                  have l2 : (k : Int) < (m : Int) + 1 := by omega
                  have HN : Rows3 w m (fun j => if j < k + 1 then wt m 0 j else raw m 0 j) (wr.setCell ⟨w.heap.size, k, none⟩ (.float .f64 (wt m 0 k))) := by
                    refine hL.set k (wt m 0 k) fun j _ => ?_
                    by_cases hj : j = k
                    · subst hj; rw [if_pos rfl, if_pos (by omega)]
                    · rw [if_neg hj]
                      by_cases hj2 : j < k
                      · rw [if_pos hj2, if_pos (by omega)]
                      · rw [if_neg hj2, if_neg (by omega)]
                  go_wp2
                  go_roundw
                  case rel => exact ⟨k + 1, by omega, by go_num, HN⟩
                  case measure => simp [intOf]; omega
                · have l2 : ¬ (k : Int) < (m : Int) + 1 := by omega
                  have HF : Rows3 w m (wt m 0) wr := hL.congr fun j hj => if_pos (by omega)
                  clear hL
                  go_wp2
                  go_ret
                  exact ⟨rfl, HF.1, HF.2.2⟩

set_option maxHeartbeats 2000000 in
set_option maxRecDepth 100000 in
theorem weights_d (m z : Nat) (w : World) (h : Ok m 0) (n : Nat) (st : Begun m 0 n) (hlt : m ≤ n)
    (hz : (FloatKind.f64.format.order z 0 == some Ordering.eq) = true)
    (hl : (FloatKind.f64.format.order (floorB (prod1 m 0)) (floatOfInt .f64 (m : Int)) == some Ordering.lt) = false) :
    Calls Try.prog 61 #[.int .i64 m, .float .f64 z] w fun e w' => e = .returned (.slice (some ⟨w.heap.size, 0, none⟩) (m + 1) (m + 1)) ∧
      w'.rowIs w.heap.size 22 (m + 1) (fl (wt m 0)) ∧ Below w.heap.size w w' := by
  have hm := h.m
  have hmk : ∀ W, (Instr.makeSlice 24 (.int .i64 ((m : Int) + 1)) (.int .i64 ((m : Int) + 1))).run Try.prog W = .ok (.slice (some ⟨W.heap.size, 0, none⟩) (m + 1) (m + 1)) (W.alloc (.cells (madeCells #[.float .f64 0] (m + 1)) 22)) :=
    fun W => by have := run_mk (m + 1) (by omega) W; rw [show ((m + 1 : Nat) : Int) = (m : Int) + 1 by omega] at this; exact this
  have hmul : ∀ ty W, (binOp .mul ty (.float .f64 (floatOfInt .f64 ((m : Int) + 1))) (.float .f64 0)).run Try.prog W = .ok (.float .f64 (prod1 m 0)) W := by
    intro ty W
    have := run_float_arith (P := Try.prog) W .mul ty .f64 _ _ _ st.mul
    rw [show ((m + 1 : Nat) : Int) = (m : Int) + 1 by omega] at this
    exact this
  obtain ⟨s, mm, e, hd, he⟩ := st.num
  have HC := Lib.hid (fun W => floor_any (prod1 m 0) W s mm e hd)
  rw [he] at HC
  have HE := Lib.hid he
  have ST := Lib.hid st
  clear he hd st
  have l1 : (m : Int) < (m : Int) + 1 := by omega
  have hK : kz m 0 = m := by rw [ST.out.kz]; omega
  have HK := Lib.hid hK
  clear hK
  have R0 := ((World.rowIs_made w (.float .f64 0) (m + 1) 22).alloc (.cells #[Value.slice (some ⟨w.heap.size, 0, none⟩) (m + 1) (m + 1)] 24))
  have hc1 := R0.cell (i := m) (by omega)
  have hf1 := R0.frozen m
  have HR := Lib.hid R0
  clear R0
  go_enter Try.func61, Try.ntmps61
  go_wp2_with (go_at_call 85; refine (HC.out _).mono ?_; rintro e w' ⟨rfl, rfl⟩)
  have HL : Rows3 w m (fun i => if m ≤ i ∧ i ≤ m then raw m 0 i else 0) (((w.alloc (.cells (madeCells #[Value.float .f64 0] (m + 1)) 22)).alloc (.cells #[Value.slice (some ⟨w.heap.size, 0, none⟩) (m + 1) (m + 1)] 24)).setCell ⟨w.heap.size, m, none⟩ (.float .f64 4607182418800017408)) := by
    refine Rows3.set (f := fun _ => 0) ⟨HR.out, ?_, ?_⟩ m 4607182418800017408 ?_
    · have := World.rowIs_alloc (w.alloc (.cells (madeCells #[Value.float .f64 0] (m + 1)) 22)) #[Value.slice (some ⟨w.heap.size, 0, none⟩) (m + 1) (m + 1)] 24 (fun _ => Value.slice (some ⟨w.heap.size, 0, none⟩) (m + 1) (m + 1)) (by intro i hi; simp at hi; subst hi; rfl)
      simpa using this
    · exact ((Below.refl _ w).alloc (Nat.le_refl _) _).alloc (by simp) _
    · intro j _
      by_cases hj : j = m
      · have hr := raw_kz m 0; rw [HK.out] at hr; rw [hj, if_pos rfl, if_pos ⟨Nat.le_refl _, Nat.le_refl _⟩, hr]; rfl
      · rw [if_neg hj, if_neg (by omega)]
  rw [World.setCell_alloc_past _ _ _ _ (by simp), World.setCell_alloc_at _ _ _ _ _ rfl] at HL
  go_loopw [9] (fun v wr => ∃ k : Nat, m ≤ k ∧ k ≤ m ∧ v = .int .i64 k ∧ Rows3 w m (fun i => if m ≤ i ∧ i ≤ k then raw m 0 i else 0) wr) (fun v _ => m - (intOf v).toNat)
  case atStart => exact ⟨m, Nat.le_refl _, by omega, rfl, HL⟩
  case round =>
    clear HL hc1 hf1 hmul hmk
    obtain ⟨k, hk1, hk2, rfl, hL⟩ := hrel
    by_cases hkm : k < m
    · obtain ⟨o1, o2, o3, o4, o5⟩ := raw_up_ops h (k := k) (by rw [HK.out]; exact hk1) hkm
      have c1 := hL.box
      have hsub := fun ty W => run_float_arith (P := Try.prog) W .sub ty .f64 _ _ _ o1
      have hquo := fun ty W => run_float_arith (P := Try.prog) W .quo ty .f64 _ _ _ o2
      unfold one at hsub hquo
      have r1 := hL.row (i := k) (by omega)
      rw [if_pos ⟨hk1, Nat.le_refl _⟩] at r1
      have CP := Lib.hid (put_i (ki := (k : Int) + 1) (fi := k) (ai := (m : Int) - k) (bi := (k : Int) + 1) (k := k + 1) (from_ := k) (above := m - k) (below := k + 1) (by omega) rfl (by omega) (by omega)
        (odds := oddU 0) (Bw := w.heap.size + 1) (g := w.heap.size) (n := m + 1) (w := wr) (by omega) (by omega) (by omega) c1 r1 (hL.row (i := k + 1) (by omega)) (hL.frozen _) o3 o4 o5)
      have HN : Rows3 w m (fun i => if m ≤ i ∧ i ≤ k + 1 then raw m 0 i else 0) ((wr.setCell ⟨w.heap.size, k + 1, none⟩ (.float .f64 (raw m 0 (k + 1)))).drew) := by
        refine (hL.set (k + 1) (raw m 0 (k + 1)) fun j _ => ?_).drew
        by_cases hj : j = k + 1
        · subst hj; rw [if_pos rfl, if_pos ⟨by omega, Nat.le_refl _⟩]
        · rw [if_neg hj]
          by_cases hj2 : m ≤ j ∧ j ≤ k
          · rw [if_pos hj2, if_pos ⟨hj2.1, by omega⟩]
          · rw [if_neg hj2, if_neg (by omega)]
      clear o1 o2 o3 o4 o5 r1
      go_wp2_with (go_at_call 86; refine CP.out.mono ?_; rintro e w' ⟨rfl, rfl⟩)
      go_roundw
      case rel => exact ⟨k + 1, by omega, by omega, by go_num, HN⟩
      case measure => simp [intOf]; omega
    · have hkm' : k = m := by omega
      have HL2 : Rows3 w m (fun i => if m ≤ i then raw m 0 i else 0) wr := by
        refine hL.congr fun j hj => ?_
        by_cases hj2 : m ≤ j
        · rw [if_pos hj2, if_pos ⟨hj2, by omega⟩]
        · rw [if_neg hj2, if_neg (by omega)]
      clear hL hkm'
      go_wp2
      obtain ⟨wo, rfl⟩ : ∃ wo : World, wo = wr := ⟨_, rfl⟩
      go_loopw [10] (fun v wr => ∃ k : Nat, k ≤ m ∧ v = .int .i64 k ∧ Rows3 w m (fun i => if k ≤ i then raw m 0 i else 0) wr) (fun v _ => (intOf v).toNat)
      case atStart => exact ⟨m, Nat.le_refl _, rfl, HL2⟩
      case round =>
        clear HL2 hk1 hk2 hkm
        obtain ⟨k, hk1, rfl, hL⟩ := hrel
        cases k with
        | succ k =>
          obtain ⟨o1, o2, o3, o4, o5⟩ := raw_dn_ops h (k := k) (by rw [HK.out]; omega)
          have c1 := hL.box
          have hsub := fun ty W => run_float_arith (P := Try.prog) W .sub ty .f64 _ _ _ o1
          have hquo := fun ty W => run_float_arith (P := Try.prog) W .quo ty .f64 _ _ _ o2
          unfold one at hsub hquo
          have r1 := hL.row (i := k + 1) (by omega)
          rw [if_pos (Nat.le_refl _)] at r1
          have CP := Lib.hid (put_i (ki := (k : Int)) (fi := (k : Int) + 1) (ai := (k : Int) + 1) (bi := (m : Int) - (k + 1) + 1) (k := k) (from_ := k + 1) (above := k + 1) (below := m - (k + 1) + 1) rfl (by omega) (by omega) (by omega)
            (odds := oddD 0) (Bw := w.heap.size + 1) (g := w.heap.size) (n := m + 1) (w := wr) (by omega) (by omega) (by omega) c1 r1 (hL.row (i := k) (by omega)) (hL.frozen _) o3 o4 o5)
          have HN : Rows3 w m (fun i => if k ≤ i then raw m 0 i else 0) ((wr.setCell ⟨w.heap.size, k, none⟩ (.float .f64 (raw m 0 k))).drew) := by
            refine (hL.set k (raw m 0 k) fun j _ => ?_).drew
            by_cases hj : j = k
            · subst hj; rw [if_pos rfl, if_pos (Nat.le_refl _)]
            · rw [if_neg hj]
              by_cases hj2 : k + 1 ≤ j
              · rw [if_pos hj2, if_pos (by omega)]
              · rw [if_neg hj2, if_neg (by omega)]
          clear o1 o2 o3 o4 o5 r1
          go_wp2_with (go_at_call 86; refine CP.out.mono ?_; rintro e w' ⟨rfl, rfl⟩)
          go_roundw
          case rel => exact ⟨k, by omega, by go_num, HN⟩
          case measure => simp [intOf]
        | zero =>
          have HL3 : Rows3 w m (raw m 0) wr := hL.congr fun j _ => if_pos (Nat.zero_le j)
          clear hL hk1
          have c1 := HL3.box
          go_wp2
          obtain ⟨wo, rfl⟩ : ∃ wo : World, wo = wr := ⟨_, rfl⟩
          go_loop [11, 78] (fun s i => ∃ k : Nat, k ≤ m + 1 ∧ i = .int .i64 k ∧ s = .float .f64 (psum (raw m 0) k)) (fun _ i => m + 1 - (intOf i).toNat)
          case atStart => exact ⟨0, Nat.zero_le _, rfl, rfl⟩
          case round =>
            obtain ⟨k, hk, rfl, rfl⟩ := hrel
            by_cases hkm : k < m + 1
            · have r1 := HL3.row hkm
              have hadd := fun ty W => run_float_arith (P := Try.prog) W .add ty .f64 _ _ _ (((psum_ok (n := m + 1) (by omega) (raw_all h) k (by omega)).2.2.2 hkm).1)
              have l2 : (k : Int) < (m : Int) + 1 := by omega
              go_wp2
              go_round
              case rel => exact ⟨k + 1, by omega, by go_num, rfl⟩
              case measure => simp [intOf]; omega
            · have l2 : ¬ (k : Int) < (m : Int) + 1 := by omega
              have hkk : k = m + 1 := by omega
              subst hkk
              go_wp2
              obtain ⟨wo, rfl⟩ : ∃ wo' : World, wo' = wo := ⟨_, rfl⟩
              go_loopw [88] (fun i wr => ∃ k : Nat, k ≤ m + 1 ∧ i = .int .i64 k ∧ Rows3 w m (fun j => if j < k then wt m 0 j else raw m 0 j) wr) (fun i _ => m + 1 - (intOf i).toNat)
              case atStart => exact ⟨0, Nat.zero_le _, rfl, HL3.congr fun j _ => by rw [if_neg (by omega)]⟩
              case round =>
                clear HL3 c1 l2 hk hkm
                obtain ⟨k, hk, rfl, hL⟩ := hrel
                have c1 := hL.box
                by_cases hkm : k < m + 1
                · have r1 := hL.row hkm
                  have f1 := hL.frozen k
                  rw [if_neg (Nat.lt_irrefl k)] at r1
                  have hq := (wt_ok h (k := k) (by omega)).1
                  unfold total at hq
                  have hquo := fun ty W => run_float_arith (P := Try.prog) W .quo ty .f64 _ _ _ hq
                  clear hq
                  have l2 : (k : Int) < (m : Int) + 1 := by omega
                  have HN : Rows3 w m (fun j => if j < k + 1 then wt m 0 j else raw m 0 j) (wr.setCell ⟨w.heap.size, k, none⟩ (.float .f64 (wt m 0 k))) := by
                    refine hL.set k (wt m 0 k) fun j _ => ?_
                    by_cases hj : j = k
                    · subst hj; rw [if_pos rfl, if_pos (by omega)]
                    · rw [if_neg hj]
                      by_cases hj2 : j < k
                      · rw [if_pos hj2, if_pos (by omega)]
                      · rw [if_neg hj2, if_neg (by omega)]
                  go_wp2
                  go_roundw
                  case rel => exact ⟨k + 1, by omega, by go_num, HN⟩
                  case measure => simp [intOf]; omega
                · have l2 : ¬ (k : Int) < (m : Int) + 1 := by omega
                  have HF : Rows3 w m (wt m 0) wr := hL.congr fun j hj => if_pos (by omega)
                  clear hL
                  go_wp2
                  go_ret
                  exact ⟨rfl, HF.1, HF.2.2⟩
end Go.Proofs.Ytcgoicijbmhmpaa
