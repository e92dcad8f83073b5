/-
  The walk of BagRanks.
-/
import Derived.Test.YtldodcojkdanjaaB5
namespace Go.Proofs.Ytldodcojkdanjaa
open Go.RowKit
set_option linter.unusedSimpArgs false

theorem Only.below {w w' : World} (h : Only [] w w') : Below w.heap.size w w' := ⟨h.os, h.tape, h.output, h.size, fun k hk => h.block k hk (by simp)⟩
theorem Holds.szL {t : T} {zs : List Int} (h : Holds t zs) : T.szL t.items = zs.length := by rw [← T.sz_items, h.sz]

set_option maxRecDepth 100000 in
set_option maxHeartbeats 4000000 in
theorem bagRanks_walk (A : Option Addr) (n c : Nat) (f : Nat → Int) (x k : Int) (w : World) (h : IntsIn w .i64 A n f) :
    Calls Try.prog 3 #[.slice A n c, .int .i64 x, .int .i64 k] w fun e w' => e = .returned (.bool true) ∧ Below w.heap.size w w' := by
  have hl := h.len
  unfold maxLen at hl
  have HI := Lib.hid h
  clear h
  have CW := Lib.hid (fun W => works_any W)
  by_cases hn : n ≤ 300
  · go_enter Try.func3, Try.ntmps3
    go_wp2_with fail
    refine (filled_back A n c f w HI.out hn).mono ?_
    rintro e w1 ⟨B, t, rfl, hob, hh⟩
    have HB := Lib.hid hob
    have HH := Lib.hid hh
    clear hob hh
    go_wp2_with fail
    refine (count_any A n c f x w1 (HI.out.only HB.out.only) (by omega)).mono ?_
    rintro e w' ⟨rfl, rfl⟩
    rw [← HH.out.cnt, ← HH.out.rank]
    go_wp2_with fail
    refine (Rank_c HB.out.bag rfl x).mono ?_
    rintro e w' ⟨rfl, n1, rfl⟩
    go_wp2_with fail
    refine (Count_c (HB.out.keepN n1).bag rfl x).mono ?_
    rintro e w' ⟨rfl, rfl⟩
    go_wp2_with fail
    refine (Kth_c (HB.out.keepN n1).bag rfl k).mono ?_
    rintro e w' ⟨rfl, n2, rfl⟩
    have hsz := HH.out.szL
    rw [vals_len] at hsz
    by_cases hk : 0 ≤ k ∧ k < n
    · have e1 : kB t.items k = true := by unfold kB; rw [hsz]; exact decide_eq_true hk
      obtain ⟨y, hy⟩ : ∃ y, kV t.items k = y := ⟨_, rfl⟩
      have hyy : y = lkth t.items k.toNat := by rw [← hy]; unfold kV; rw [hsz, if_pos hk]
      obtain ⟨r1, r2⟩ := lkth_rank (l := t.items) (k := k.toNat) HB.out.bag.so (by omega)
      rw [← hyy] at r1 r2
      rw [e1, hy]
      have b1 := lcnt_le_sz y t.items
      have b2 : lrank y t.items ≤ T.szL t.items := by omega
      obtain ⟨r, hr⟩ : ∃ r, lrank y t.items = r := ⟨_, rfl⟩
      obtain ⟨q, hq⟩ : ∃ q, lcnt y t.items = q := ⟨_, rfl⟩
      rw [hr, hq] at r2
      rw [hr] at r1 b2
      rw [hq] at b1
      have C1 := Lib.hid (fun m => Rank_c (HB.out.keepN m).bag rfl y)
      have C2 := Lib.hid (fun m => Count_c (HB.out.keepN m).bag rfl y)
      rw [hr] at C1
      rw [hq] at C2
      clear e1 hyy hy hr hq
      go_wp2_with fail
      refine (C1.out _).mono ?_
      rintro e w' ⟨rfl, n3, rfl⟩
      have l1 : (r : Int) ≤ k := by omega
      go_wp2_with fail
      refine (C1.out _).mono ?_
      rintro e w' ⟨rfl, n4, rfl⟩
      go_wp2_with fail
      refine (C2.out _).mono ?_
      rintro e w' ⟨rfl, rfl⟩
      have l2 : k < (r : Int) + (q : Int) := by omega
      go_wp2_with fail
      refine (CW.out _).mono ?_
      rintro e w9 ⟨rfl, hO⟩
      have HO := Lib.hid ((HB.out.only.drewN (n1 + n2 + n3 + n4)).trans hO)
      clear hO
      go_wp2_with fail
      go_ret
      exact ⟨rfl, HO.out.below⟩
    · have e1 : kB t.items k = false := by unfold kB; rw [hsz]; exact decide_eq_false hk
      have e2 : kV t.items k = 0 := by unfold kV; rw [hsz, if_neg hk]
      rw [e1, e2]
      clear e1 e2
      have C := Lib.hid (fun W (hO : Only [] w W) => (CW.out W).mono (R' := fun e w' => e = .returned (.bool true) ∧ Only [] w w') fun e w' ⟨a, b⟩ => ⟨a, hO.trans b⟩)
      by_cases hk0 : k < 0
      · have q1 : decide (k < 0) = true := by simpa using hk0
        clear hk
        go_wp2_with fail
        refine (C.out _ (HB.out.only.drewN _)).mono ?_
        rintro e w9 ⟨rfl, hO⟩
        have HO := Lib.hid hO
        clear hO
        go_wp2_with fail
        go_ret
        exact ⟨rfl, HO.out.below⟩
      · have q1 : decide (k < 0) = false := by simp; omega
        have q2 : (n : Int) ≤ k := by omega
        clear hk
        go_wp2_with fail
        refine (C.out _ (HB.out.only.drewN _)).mono ?_
        rintro e w9 ⟨rfl, hO⟩
        have HO := Lib.hid hO
        clear hO
        go_wp2_with fail
        go_ret
        exact ⟨rfl, HO.out.below⟩
  · go_enter Try.func3, Try.ntmps3
    go_wp2_with fail
    refine (CW.out _).mono ?_
    rintro e w9 ⟨rfl, hO⟩
    have HO := Lib.hid hO
    clear hO
    go_wp2_with fail
    go_ret
    exact ⟨rfl, HO.out.below⟩
end Go.Proofs.Ytldodcojkdanjaa
