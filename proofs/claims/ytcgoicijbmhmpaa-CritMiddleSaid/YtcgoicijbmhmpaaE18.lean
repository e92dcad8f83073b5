/-
  The law on means of integers.
-/
import Derived.Test.YtcgoicijbmhmpaaE16
import Derived.Test.YtcgoicijbmhmpaaE17
namespace Go.Proofs.Ytcgoicijbmhmpaa
open Go.RowKit Go.Fl Go.Deep
attribute [local irreducible] mean vari

theorem nil_list (w : World) : ListIn w none 0 (fun _ => 0) := ⟨fun h => by omega, fun _ h => by omega, by unfold maxLen; omega⟩
theorem ofI_list {w W : World} {v : Value} {n : Nat} {f : Nat → Nat} (h : W.ownsRow w.heap.size 22 1 v n (cellsOf f n)) (hf : ∀ k, isFin (f k)) (hn : n ≤ 1000) : ∃ A c, v = .slice A n c ∧ ListIn W A n f := by
  obtain ⟨A, c, rfl, hR⟩ := own_rowF h
  exact ⟨A, c, rfl, hR, fun j _ => (hf j).1, by unfold maxLen; omega⟩

theorem mean_nil (W : World) : Calls Try.prog 50 #[.slice none 0 0] W fun e w' => e = .returned (.tuple #[.float .f64 0, .float .f64 0, .int .i64 2]) ∧ W = w' :=
  Mean_bad none 0 0 (fun _ => 0) W (nil_list W) (listB_false (.inl (by omega)))

set_option maxRecDepth 100000 in
set_option maxHeartbeats 1000000 in
theorem critMiddle_walk (A : Option Addr) (n c : Nat) (l : Nat → Int) (w : World) (h : IntsIn w .i32 A n l) :
    Calls Try.prog 18 #[.slice A n c] w fun e w' => e = .returned (.bool true) ∧ Below w.heap.size w w' := by
  obtain ⟨i0, hi, hz0, hz1, hz2⟩ := info_parts Try.info22
  by_cases hn : (1000 : Int) < n
  · clear h
    go_enter Try.func18, Try.ntmps18
    go_wp2_with (go_at_call 45; refine (works32_any _).mono ?_; rintro e w2 ⟨rfl, hb2⟩)
    go_ret
    exact ⟨rfl, hb2⟩
  · rcases Nat.eq_zero_or_pos n with h0 | h0
    · subst h0
      have CM := Lib.hid (fun W => mean_nil W)
      clear h
      go_enter Try.func18, Try.ntmps18
      go_wp2
      go_loopw [3, 4, 5, 8] (fun va vb vc i wr => va = .slice none 0 0 ∧ vb = .slice none 0 0 ∧ vc = .slice none 0 0 ∧ i = .int .i64 0 ∧ w = wr) (fun _ _ _ _ _ => 0)
      case atStart => exact ⟨rfl, rfl, rfl, rfl, rfl⟩
      case round =>
        obtain ⟨rfl, rfl, rfl, rfl, rfl⟩ := hrel
        go_wp2_with (first | (go_at_call 50; refine (CM.out _).mono ?_; rintro e w' ⟨rfl, rfl⟩) | (go_at_call 45; refine (works32_any _).mono ?_; rintro e w1 ⟨rfl, hb1⟩))
        go_ret
        exact ⟨rfl, hb1⟩
    · obtain ⟨b, off, rfl, hb, hc⟩ := h.row h0
      have hn2 : n ≤ 1000 := by omega
      have HC := Lib.hid (fun W (hW : Below w.heap.size w W) j (hj : j < n) => show W.cell? ⟨b, off + j, none⟩ = some (.int .i32 (l j)) from (hW.cell (p := ⟨b, off + j, none⟩) hb).trans (hc j hj))
      have q1 : IntKind.i64.wrap ((n : Int) - 1) = (n : Int) - 1 := IntWalk.i64_in _ (by omega)
      clear h hc
      go_enter Try.func18, Try.ntmps18
      go_wp2
      go_loopw [3, 4, 5, 6, 7, 8] (fun va vb vc x y i wr => ∃ k X Y : Nat, k ≤ n ∧ i = .int .i64 k ∧ x = .float .f64 X ∧ y = .float .f64 Y ∧ Hid (Tri w wr k va k vb k vc (gA l) (gB l n) (gC l)) ∧ Hid (Least l k X ∧ Most l k Y)) (fun _ _ _ _ _ i _ => n - (intOf i).toNat)
      case atStart => exact ⟨0, 0, 0, Nat.zero_le _, rfl, rfl, rfl, Lib.hid (Tri.nil _ _ _ _), Lib.hid ⟨fun h => by omega, fun h => by omega⟩⟩
      case round =>
        obtain ⟨k, X, Y, hk, rfl, rfl, rfl, T, HL⟩ := hrel
        by_cases hkn : k < n
        · have c1 := HC.out _ T.out.bel k hkn
          have l1 : (k : Int) < n := by omega
          have q2 : IntKind.i64.wrap ((n : Int) - 1 - k) = (n : Int) - 1 - k := IntWalk.i64_in _ (by omega)
          have q3 : (0 : Int) ≤ (n : Int) - 1 - k := by omega
          have q4 : ((n : Int) - 1 - k).toNat = n - 1 - k := by omega
          have q5 : (n : Int) - 1 - k < n := by omega
          have q6 : (0 : Int) < n := by omega
          rcases Nat.eq_zero_or_pos k with hk0 | hk0
          · have l3 : ((k : Int) == 0) = true := by rw [beq_iff_eq]; omega
            have K0 := Lib.hid hk0
            clear hk0
            go_wp2_with (first | (at_builtin; refine wpList_append_beside rfl _ _ 24 rfl w.heap.size 22 i0 (.float .f64 0) 1 8 Try.underlying24 hi hz0 hz1 hz2 rfl (by decide) _ _ _ rfl (T.out.a.alloc _) ⟨_, 0, none⟩ 1 1 [.float .f64 (gA l k)] rfl rfl (cell_one_new _ _ _) (by simp [Value.oneCell']) (by unfold maxLen; omega) (by omega) (by have := T.out.bel.size; simp; omega) ?_; intro va' w2 hown' hgrow hp; have T2 := Lib.hid ((T.out.alloc _).step hown' hgrow hp); have c2 := HC.out _ T2.out.bel (n - 1 - k) (by omega); clear hown' hgrow hp T c1) | (at_builtin; refine wpList_append_beside rfl _ _ 24 rfl w.heap.size 22 i0 (.float .f64 0) 1 8 Try.underlying24 hi hz0 hz1 hz2 rfl (by decide) _ _ _ rfl (T2.out.b.alloc _) ⟨_, 0, none⟩ 1 1 [.float .f64 (gB l n k)] rfl rfl (cell_one_new _ _ _) (by simp [Value.oneCell']) (by unfold maxLen; omega) (by omega) (by have := T2.out.bel.size; simp; omega) ?_; intro vb' w3 hown' hgrow hp; have T3 := Lib.hid ((T2.out.rot.alloc _).step hown' hgrow hp); have c3 : w3.cell? ⟨b, off, none⟩ = some (.int .i32 (l 0)) := HC.out _ T3.out.bel 0 (by omega); clear hown' hgrow hp T2 c2) | (at_builtin; refine wpList_append_beside rfl _ _ 24 rfl w.heap.size 22 i0 (.float .f64 0) 1 8 Try.underlying24 hi hz0 hz1 hz2 rfl (by decide) _ _ _ rfl (T3.out.b.alloc _) ⟨_, 0, none⟩ 1 1 [.float .f64 (gC l k)] rfl rfl (cell_one_new _ _ _) (by simp [Value.oneCell']) (by unfold maxLen; omega) (by omega) (by have := T3.out.bel.size; simp; omega) ?_; intro vc' w4 hown' hgrow hp; have T4 := Lib.hid ((T3.out.rot.alloc _).step hown' hgrow hp).rot; clear hown' hgrow hp T3 c3))
            go_roundw
            case rel => exact ⟨k + 1, _, _, by omega, by go_num, rfl, rfl, T4, Lib.hid ⟨(by rw [K0.out]; exact Least.one l : Least l (k + 1) (gA l k)), (by rw [K0.out]; exact Most.one l : Most l (k + 1) (gA l k))⟩⟩
            case measure => simp [intOf]; omega
          · have l2 : ¬ (k : Int) = 0 := by omega
            have l3 : ((k : Int) == 0) = false := by rw [beq_eq_false_iff_ne]; exact l2
            have hk1 := Lib.hid hk0
            cases o1 : flt (gA l k) X with
            | true =>
              have HX := Lib.hid (HL.out.1.lt hk0 o1)
              have p1 : (FloatKind.f64.format.order (floatOfInt .f64 ((l k).tmod 1048576)) X == some Ordering.lt) = true := o1
              cases o2 : fgt (gA l k) Y with
              | true =>
                have HY := Lib.hid (HL.out.2.gt hk0 o2)
                have p2 : (FloatKind.f64.format.order (floatOfInt .f64 ((l k).tmod 1048576)) Y == some Ordering.gt) = true := o2
                clear o1 o2 HL hk0
                go_wp2_with (first | (at_builtin; refine wpList_append_beside rfl _ _ 24 rfl w.heap.size 22 i0 (.float .f64 0) 1 8 Try.underlying24 hi hz0 hz1 hz2 rfl (by decide) _ _ _ rfl (T.out.a.alloc _) ⟨_, 0, none⟩ 1 1 [.float .f64 (gA l k)] rfl rfl (cell_one_new _ _ _) (by simp [Value.oneCell']) (by unfold maxLen; omega) (by omega) (by have := T.out.bel.size; simp; omega) ?_; intro va' w2 hown' hgrow hp; have T2 := Lib.hid ((T.out.alloc _).step hown' hgrow hp); have c2 := HC.out _ T2.out.bel (n - 1 - k) (by omega); clear hown' hgrow hp T c1) | (at_builtin; refine wpList_append_beside rfl _ _ 24 rfl w.heap.size 22 i0 (.float .f64 0) 1 8 Try.underlying24 hi hz0 hz1 hz2 rfl (by decide) _ _ _ rfl (T2.out.b.alloc _) ⟨_, 0, none⟩ 1 1 [.float .f64 (gB l n k)] rfl rfl (cell_one_new _ _ _) (by simp [Value.oneCell']) (by unfold maxLen; omega) (by omega) (by have := T2.out.bel.size; simp; omega) ?_; intro vb' w3 hown' hgrow hp; have T3 := Lib.hid ((T2.out.rot.alloc _).step hown' hgrow hp); have c3 : w3.cell? ⟨b, off, none⟩ = some (.int .i32 (l 0)) := HC.out _ T3.out.bel 0 (by omega); clear hown' hgrow hp T2 c2) | (at_builtin; refine wpList_append_beside rfl _ _ 24 rfl w.heap.size 22 i0 (.float .f64 0) 1 8 Try.underlying24 hi hz0 hz1 hz2 rfl (by decide) _ _ _ rfl (T3.out.b.alloc _) ⟨_, 0, none⟩ 1 1 [.float .f64 (gC l k)] rfl rfl (cell_one_new _ _ _) (by simp [Value.oneCell']) (by unfold maxLen; omega) (by omega) (by have := T3.out.bel.size; simp; omega) ?_; intro vc' w4 hown' hgrow hp; have T4 := Lib.hid ((T3.out.rot.alloc _).step hown' hgrow hp).rot; clear hown' hgrow hp T3 c3))
                go_roundw
                case rel => exact ⟨k + 1, _, _, by omega, by go_num, rfl, rfl, T4, Lib.hid ⟨HX.out, HY.out⟩⟩
                case measure => simp [intOf]; omega
              | false =>
                have HY := Lib.hid (HL.out.2.le hk0 o2)
                have p2 : (FloatKind.f64.format.order (floatOfInt .f64 ((l k).tmod 1048576)) Y == some Ordering.gt) = false := o2
                clear o1 o2 HL hk0
                go_wp2_with (first | (at_builtin; refine wpList_append_beside rfl _ _ 24 rfl w.heap.size 22 i0 (.float .f64 0) 1 8 Try.underlying24 hi hz0 hz1 hz2 rfl (by decide) _ _ _ rfl (T.out.a.alloc _) ⟨_, 0, none⟩ 1 1 [.float .f64 (gA l k)] rfl rfl (cell_one_new _ _ _) (by simp [Value.oneCell']) (by unfold maxLen; omega) (by omega) (by have := T.out.bel.size; simp; omega) ?_; intro va' w2 hown' hgrow hp; have T2 := Lib.hid ((T.out.alloc _).step hown' hgrow hp); have c2 := HC.out _ T2.out.bel (n - 1 - k) (by omega); clear hown' hgrow hp T c1) | (at_builtin; refine wpList_append_beside rfl _ _ 24 rfl w.heap.size 22 i0 (.float .f64 0) 1 8 Try.underlying24 hi hz0 hz1 hz2 rfl (by decide) _ _ _ rfl (T2.out.b.alloc _) ⟨_, 0, none⟩ 1 1 [.float .f64 (gB l n k)] rfl rfl (cell_one_new _ _ _) (by simp [Value.oneCell']) (by unfold maxLen; omega) (by omega) (by have := T2.out.bel.size; simp; omega) ?_; intro vb' w3 hown' hgrow hp; have T3 := Lib.hid ((T2.out.rot.alloc _).step hown' hgrow hp); have c3 : w3.cell? ⟨b, off, none⟩ = some (.int .i32 (l 0)) := HC.out _ T3.out.bel 0 (by omega); clear hown' hgrow hp T2 c2) | (at_builtin; refine wpList_append_beside rfl _ _ 24 rfl w.heap.size 22 i0 (.float .f64 0) 1 8 Try.underlying24 hi hz0 hz1 hz2 rfl (by decide) _ _ _ rfl (T3.out.b.alloc _) ⟨_, 0, none⟩ 1 1 [.float .f64 (gC l k)] rfl rfl (cell_one_new _ _ _) (by simp [Value.oneCell']) (by unfold maxLen; omega) (by omega) (by have := T3.out.bel.size; simp; omega) ?_; intro vc' w4 hown' hgrow hp; have T4 := Lib.hid ((T3.out.rot.alloc _).step hown' hgrow hp).rot; clear hown' hgrow hp T3 c3))
                go_roundw
                case rel => exact ⟨k + 1, _, _, by omega, by go_num, rfl, rfl, T4, Lib.hid ⟨HX.out, HY.out⟩⟩
                case measure => simp [intOf]; omega
            | false =>
              have HX := Lib.hid (HL.out.1.ge hk0 o1)
              have p1 : (FloatKind.f64.format.order (floatOfInt .f64 ((l k).tmod 1048576)) X == some Ordering.lt) = false := o1
              cases o2 : fgt (gA l k) Y with
              | true =>
                have HY := Lib.hid (HL.out.2.gt hk0 o2)
                have p2 : (FloatKind.f64.format.order (floatOfInt .f64 ((l k).tmod 1048576)) Y == some Ordering.gt) = true := o2
                clear o1 o2 HL hk0
                go_wp2_with (first | (at_builtin; refine wpList_append_beside rfl _ _ 24 rfl w.heap.size 22 i0 (.float .f64 0) 1 8 Try.underlying24 hi hz0 hz1 hz2 rfl (by decide) _ _ _ rfl (T.out.a.alloc _) ⟨_, 0, none⟩ 1 1 [.float .f64 (gA l k)] rfl rfl (cell_one_new _ _ _) (by simp [Value.oneCell']) (by unfold maxLen; omega) (by omega) (by have := T.out.bel.size; simp; omega) ?_; intro va' w2 hown' hgrow hp; have T2 := Lib.hid ((T.out.alloc _).step hown' hgrow hp); have c2 := HC.out _ T2.out.bel (n - 1 - k) (by omega); clear hown' hgrow hp T c1) | (at_builtin; refine wpList_append_beside rfl _ _ 24 rfl w.heap.size 22 i0 (.float .f64 0) 1 8 Try.underlying24 hi hz0 hz1 hz2 rfl (by decide) _ _ _ rfl (T2.out.b.alloc _) ⟨_, 0, none⟩ 1 1 [.float .f64 (gB l n k)] rfl rfl (cell_one_new _ _ _) (by simp [Value.oneCell']) (by unfold maxLen; omega) (by omega) (by have := T2.out.bel.size; simp; omega) ?_; intro vb' w3 hown' hgrow hp; have T3 := Lib.hid ((T2.out.rot.alloc _).step hown' hgrow hp); have c3 : w3.cell? ⟨b, off, none⟩ = some (.int .i32 (l 0)) := HC.out _ T3.out.bel 0 (by omega); clear hown' hgrow hp T2 c2) | (at_builtin; refine wpList_append_beside rfl _ _ 24 rfl w.heap.size 22 i0 (.float .f64 0) 1 8 Try.underlying24 hi hz0 hz1 hz2 rfl (by decide) _ _ _ rfl (T3.out.b.alloc _) ⟨_, 0, none⟩ 1 1 [.float .f64 (gC l k)] rfl rfl (cell_one_new _ _ _) (by simp [Value.oneCell']) (by unfold maxLen; omega) (by omega) (by have := T3.out.bel.size; simp; omega) ?_; intro vc' w4 hown' hgrow hp; have T4 := Lib.hid ((T3.out.rot.alloc _).step hown' hgrow hp).rot; clear hown' hgrow hp T3 c3))
                go_roundw
                case rel => exact ⟨k + 1, _, _, by omega, by go_num, rfl, rfl, T4, Lib.hid ⟨HX.out, HY.out⟩⟩
                case measure => simp [intOf]; omega
              | false =>
                have HY := Lib.hid (HL.out.2.le hk0 o2)
                have p2 : (FloatKind.f64.format.order (floatOfInt .f64 ((l k).tmod 1048576)) Y == some Ordering.gt) = false := o2
                clear o1 o2 HL hk0
                go_wp2_with (first | (at_builtin; refine wpList_append_beside rfl _ _ 24 rfl w.heap.size 22 i0 (.float .f64 0) 1 8 Try.underlying24 hi hz0 hz1 hz2 rfl (by decide) _ _ _ rfl (T.out.a.alloc _) ⟨_, 0, none⟩ 1 1 [.float .f64 (gA l k)] rfl rfl (cell_one_new _ _ _) (by simp [Value.oneCell']) (by unfold maxLen; omega) (by omega) (by have := T.out.bel.size; simp; omega) ?_; intro va' w2 hown' hgrow hp; have T2 := Lib.hid ((T.out.alloc _).step hown' hgrow hp); have c2 := HC.out _ T2.out.bel (n - 1 - k) (by omega); clear hown' hgrow hp T c1) | (at_builtin; refine wpList_append_beside rfl _ _ 24 rfl w.heap.size 22 i0 (.float .f64 0) 1 8 Try.underlying24 hi hz0 hz1 hz2 rfl (by decide) _ _ _ rfl (T2.out.b.alloc _) ⟨_, 0, none⟩ 1 1 [.float .f64 (gB l n k)] rfl rfl (cell_one_new _ _ _) (by simp [Value.oneCell']) (by unfold maxLen; omega) (by omega) (by have := T2.out.bel.size; simp; omega) ?_; intro vb' w3 hown' hgrow hp; have T3 := Lib.hid ((T2.out.rot.alloc _).step hown' hgrow hp); have c3 : w3.cell? ⟨b, off, none⟩ = some (.int .i32 (l 0)) := HC.out _ T3.out.bel 0 (by omega); clear hown' hgrow hp T2 c2) | (at_builtin; refine wpList_append_beside rfl _ _ 24 rfl w.heap.size 22 i0 (.float .f64 0) 1 8 Try.underlying24 hi hz0 hz1 hz2 rfl (by decide) _ _ _ rfl (T3.out.b.alloc _) ⟨_, 0, none⟩ 1 1 [.float .f64 (gC l k)] rfl rfl (cell_one_new _ _ _) (by simp [Value.oneCell']) (by unfold maxLen; omega) (by omega) (by have := T3.out.bel.size; simp; omega) ?_; intro vc' w4 hown' hgrow hp; have T4 := Lib.hid ((T3.out.rot.alloc _).step hown' hgrow hp).rot; clear hown' hgrow hp T3 c3))
                go_roundw
                case rel => exact ⟨k + 1, _, _, by omega, by go_num, rfl, rfl, T4, Lib.hid ⟨HX.out, HY.out⟩⟩
                case measure => simp [intOf]; omega
        · obtain rfl : k = n := by omega
          have M := middle h0 hn2 HL.out.1 HL.out.2
          obtain ⟨Aa, ca, rfl, La⟩ := ofI_list T.out.a (gA_fin l) hn2
          obtain ⟨Ab, cb, rfl, Lb⟩ := ofI_list T.out.b (fun j => (ofmd l _).1) hn2
          obtain ⟨Ac, cc, rfl, Lc⟩ := ofI_list T.out.c (fun j => (ofmd l _).1) hn2
          have CA := Lib.hid (Mean_ok Aa k ca (gA l) wr La M.la)
          have CB := Lib.hid (Mean_ok Ab k cb (gB l k) wr Lb M.lb)
          have CC := Lib.hid (Mean_ok Ac k cc (gC l) wr Lc M.lc)
          have g1 : (FloatKind.f64.format.order (mean (gA l) k) (mean (gB l k) k) == some Ordering.eq) = true := M.same
          have g2 : (FloatKind.f64.format.order (mean (gA l) k) X == some Ordering.gt || FloatKind.f64.format.order (mean (gA l) k) X == some Ordering.eq) = true := M.low
          have g3 : (FloatKind.f64.format.order (mean (gA l) k) Y == some Ordering.lt || FloatKind.f64.format.order (mean (gA l) k) Y == some Ordering.eq) = true := M.high
          have g4 : (FloatKind.f64.format.order (vari (gA l) k) 0 == some Ordering.gt || FloatKind.f64.format.order (vari (gA l) k) 0 == some Ordering.eq) = true := M.var
          have g5 : (FloatKind.f64.format.order (vari (gC l) k) 0 == some Ordering.eq) = true := M.zero
          have HB := Lib.hid T.out.bel
          have l2 : ¬ (k : Int) = 0 := by omega
          have l3 : ((k : Int) == 0) = false := by rw [beq_eq_false_iff_ne]; exact l2
          generalize mean (gA l) k = ma at *
          generalize mean (gB l k) k = mb at *
          generalize mean (gC l) k = mc at *
          generalize vari (gA l) k = xa at *
          generalize vari (gB l k) k = xb at *
          generalize vari (gC l) k = xc at *
          clear M La Lb Lc T HL
          go_wp2_with (first | (go_at_call_of 50 (Value.slice Aa k ca); refine CA.out.mono ?_; rintro e w' ⟨rfl, rfl⟩) | (go_at_call_of 50 (Value.slice Ab k cb); refine CB.out.mono ?_; rintro e w' ⟨rfl, rfl⟩) | (go_at_call_of 50 (Value.slice Ac k cc); refine CC.out.mono ?_; rintro e w' ⟨rfl, rfl⟩) | (go_at_call 45; refine (works32_any _).mono ?_; rintro e w1 ⟨rfl, hb1⟩))
          go_ret
          exact ⟨rfl, HB.out.trans (hb1.mono HB.out.size)⟩
end Go.Proofs.Ytcgoicijbmhmpaa
