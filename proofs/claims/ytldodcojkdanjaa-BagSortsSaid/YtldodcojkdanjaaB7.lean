/-
  The walk of BagSorts.
-/
import Derived.Test.YtldodcojkdanjaaB6
namespace Go.Proofs.Ytldodcojkdanjaa
open Go.RowKit
set_option linter.unusedSimpArgs false

section
variable {W : World} {B : Nat} {t : T} {L : Items} (h : Bag W B t) (e : t.items = L)
include h e
theorem Min_c : Calls Try.prog 21 #[.pointer (some ⟨B, 0, none⟩)] W fun e w' => e = .returned (.tuple #[.int .i64 (kV L 0), .bool (kB L 0)]) ∧ ∃ n, w' = W.drewN n := by
  have := Min_any B t W h.head h.tree (Nat.le_trans h.sz (by omega))
  rw [kthV_items, kthB_items, e] at this
  exact this
theorem Max_c : Calls Try.prog 22 #[.pointer (some ⟨B, 0, none⟩)] W fun e w' => e = .returned (.tuple #[.int .i64 (kV L ((T.szL L : Int) - 1)), .bool (kB L ((T.szL L : Int) - 1))]) ∧ ∃ n, w' = W.drewN n := by
  have := Max_any B t W h.head h.tree (Nat.le_trans h.sz (by omega))
  rw [kthV_items, kthB_items, T.sz_items, e] at this
  exact this
end
/-- The number before the k-th; 0 ahead of the first. -/
def lst (L : Items) (k : Nat) : Int := if k = 0 then 0 else lkth L (k - 1)

set_option maxRecDepth 100000 in
set_option maxHeartbeats 4000000 in
theorem bagSorts_walk (A : Option Addr) (n c : Nat) (f : Nat → Int) (w : World) (h : IntsIn w .i64 A n f) :
    Calls Try.prog 5 #[.slice A n c] w fun e w' => e = .returned (.bool true) ∧ Below w.heap.size w w' := by
  have hl := h.len
  unfold maxLen at hl
  have HI := Lib.hid h
  clear h
  have CW := Lib.hid (fun W => works_any W)
  by_cases hn : n ≤ 300
  · go_enter Try.func5, Try.ntmps5
    go_wp2_with fail
    refine (filled_fwd A n c f w HI.out hn).mono ?_
    rintro e w1 ⟨B, t, rfl, hob, hh⟩
    have HB := Lib.hid hob
    have HH := Lib.hid hh
    have HZ := Lib.hid (show T.szL t.items = n by rw [hh.szL, vals_len])
    clear hob hh
    go_wp2_with fail
    refine (Size_c HB.out.bag rfl).mono ?_
    rintro e w' ⟨rfl, n0, rfl⟩
    rw [HZ.out]
    have CK := Lib.hid (fun m k => Kth_c (HB.out.keepN m).bag rfl k)
    have CC := Lib.hid (fun m x => Count_c (HB.out.keepN m).bag rfl x)
    have CN := Lib.hid (fun m => Min_c (HB.out.keepN m).bag rfl)
    have CM := Lib.hid (fun m => Max_c (HB.out.keepN m).bag rfl)
    rw [HZ.out] at CM
    have CT := Lib.hid (fun m x => count_any A n c f x (w1.drewN m) (HI.out.only (HB.out.only.drewN m)) (by omega))
    go_wp2_with fail
    go_loopw [4, 5] (fun a i wr => ∃ (k m : Nat), k ≤ n ∧ i = .int .i64 k ∧ a = .int .i64 (lst t.items k) ∧ wr = w1.drewN m) (fun _ i _ => n - (intOf i).toNat)
    case atStart => exact ⟨0, n0, Nat.zero_le _, rfl, rfl, rfl⟩
    case round =>
      obtain ⟨k, m, hk, rfl, rfl, rfl⟩ := hrel
      by_cases hlt : k < n
      · have CT := CT
        have CC := CC
        have hx1 : kV t.items (k : Int) = lkth t.items k := by unfold kV; rw [HZ.out, if_pos (by omega)]; simp
        have hb1 : kB t.items (k : Int) = true := by unfold kB; rw [HZ.out]; exact decide_eq_true (by omega)
        have hr := lkth_rank (l := t.items) (k := k) HB.out.bag.so (by rw [HZ.out]; exact hlt)
        have hls : lst t.items (k + 1) = lkth t.items k := by simp [lst]
        have hmn : k = 0 → kV t.items 0 = lkth t.items k ∧ kB t.items 0 = true := fun h0 => by subst h0; exact ⟨hx1, hb1⟩
        have hge : 0 < k → lst t.items k ≤ lkth t.items k := fun h0 => by
          unfold lst
          rw [if_neg (by omega)]
          exact lkth_mono HB.out.bag.so (by omega) (by rw [HZ.out]; exact hlt)
        obtain ⟨x, hx⟩ : ∃ x, lkth t.items k = x := ⟨_, rfl⟩
        rw [hx] at hx1 hr hls hmn hge
        have CT := Lib.hid (fun m => CT.out m x)
        rw [← HH.out.cnt, ← HH.out.rank] at CT
        have CC := Lib.hid (fun m => CC.out m x)
        have CK := Lib.hid (fun m => CK.out m (k : Int))
        rw [hx1, hb1] at CK
        have b1 := lcnt_le_sz x t.items
        rw [HZ.out] at b1
        obtain ⟨r, hrr⟩ : ∃ r, lrank x t.items = r := ⟨_, rfl⟩
        obtain ⟨q, hqq⟩ : ∃ q, lcnt x t.items = q := ⟨_, rfl⟩
        rw [hrr] at CT hr
        rw [hqq] at CT CC hr b1
        obtain ⟨r1, r2⟩ := hr
        have HLS := Lib.hid hls
        clear hx1 hb1 hx hrr hqq hls
        go_wp2_with fail
        refine (CK.out m).mono ?_
        rintro e w' ⟨rfl, m1, rfl⟩
        have t1 : ((q : Int) == 0) = false := by simp; omega
        by_cases h0 : k = 0
        · obtain ⟨g1, g2⟩ := hmn h0
          have CN := CN
          rw [g1, g2] at CN
          have HK0 := Lib.hid h0
          have q0 : decide ((0 : Int) < (k : Int)) = false := by simp; omega
          have q0n : decide (0 < k) = false := by simp; omega
          have q1 : ((k : Int) == 0) = true := by simp; omega
          clear hmn hge h0 g1 g2
          go_wp2_with fail
          refine (CT.out _).mono ?_
          rintro e w' ⟨rfl, rfl⟩
          go_wp2_with fail
          refine (CC.out _).mono ?_
          rintro e w' ⟨rfl, rfl⟩
          go_wp2_with fail
          refine (CN.out _).mono ?_
          rintro e w' ⟨rfl, m2, rfl⟩
          go_wp2_with fail
          go_roundw
          case rel => exact ⟨k + 1, m + m1 + m2, by omega, by go_num, by rw [HLS.out], rfl⟩
          case measure => simp [intOf]; omega
        · have q0 : decide ((0 : Int) < (k : Int)) = true := by simp; omega
          have q0n : decide (0 < k) = true := by simp; omega
          have q2n : decide (x < lst t.items k) = false := by have := hge (by omega); simp; omega
          have q1 : ((k : Int) == 0) = false := by simp; omega
          have q2 := hge (by omega)
          clear hmn hge h0
          go_wp2_with fail
          refine (CT.out _).mono ?_
          rintro e w' ⟨rfl, rfl⟩
          go_wp2_with fail
          refine (CC.out _).mono ?_
          rintro e w' ⟨rfl, rfl⟩
          go_wp2_with fail
          refine (CN.out _).mono ?_
          rintro e w' ⟨rfl, m2, rfl⟩
          go_wp2_with fail
          go_roundw
          case rel => exact ⟨k + 1, m + m1 + m2, by omega, by go_num, by rw [HLS.out], rfl⟩
          case measure => simp [intOf]; omega
      · obtain rfl : k = n := by omega
        have e1 : kB t.items (k : Int) = false := by unfold kB; rw [HZ.out]; exact decide_eq_false (by omega)
        have e2 : kB t.items (-1) = false := by unfold kB; exact decide_eq_false (by omega)
        have C1 := Lib.hid (fun m => CK.out m (k : Int))
        have C2 := Lib.hid (fun m => CK.out m (-1))
        rw [e1] at C1
        rw [e2] at C2
        have e3 : kB t.items ((k : Int) - 1) = decide ((0 : Int) < (k : Int)) := by unfold kB; rw [HZ.out]; rw [decide_eq_decide]; omega
        have e4 : kV t.items ((k : Int) - 1) = lst t.items k := by
          unfold kV lst
          rw [HZ.out]
          by_cases h0 : k = 0
          · rw [if_neg (by omega), if_pos h0]
          · rw [if_pos (by omega), if_neg h0]
            congr 1
            omega
        rw [e3, e4] at CM
        obtain ⟨z, hz⟩ : ∃ z, lst t.items k = z := ⟨_, rfl⟩
        rw [hz] at CM ⊢
        clear e1 e2 e3 e4 hz
        go_wp2_with fail
        refine (C1.out _).mono ?_
        rintro e w' ⟨rfl, m1, rfl⟩
        go_wp2_with fail
        refine (C2.out _).mono ?_
        rintro e w' ⟨rfl, m2, rfl⟩
        go_wp2_with fail
        refine (CM.out _).mono ?_
        rintro e w' ⟨rfl, m3, rfl⟩
        by_cases h0 : (0 : Int) < (k : Int)
        · have g := decide_eq_true h0
          have g2 : (decide ((0 : Int) < (k : Int)) == decide ((0 : Int) < (k : Int))) = true := by simp
          go_wp2_with fail
          refine (CW.out _).mono ?_
          rintro e w9 ⟨rfl, hO⟩
          have HO := Lib.hid ((HB.out.only.drewN _).trans hO)
          clear hO
          go_wp2_with fail
          go_ret
          exact ⟨rfl, HO.out.below⟩
        · have g := decide_eq_false h0
          go_wp2_with fail
          refine (CW.out _).mono ?_
          rintro e w9 ⟨rfl, hO⟩
          have HO := Lib.hid ((HB.out.only.drewN _).trans hO)
          clear hO
          go_wp2_with fail
          go_ret
          exact ⟨rfl, HO.out.below⟩
  · go_enter Try.func5, Try.ntmps5
    go_wp2_with fail
    refine (CW.out _).mono ?_
    rintro e w9 ⟨rfl, hO⟩
    have HO := Lib.hid hO
    clear hO
    go_wp2_with fail
    go_ret
    exact ⟨rfl, HO.out.below⟩
end Go.Proofs.Ytldodcojkdanjaa
