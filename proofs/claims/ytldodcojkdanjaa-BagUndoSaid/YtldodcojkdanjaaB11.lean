/-
  The walk of BagUndo.
-/
import Derived.Test.YtldodcojkdanjaaB9
namespace Go.Proofs.Ytldodcojkdanjaa
open Go.RowKit
set_option linter.unusedSimpArgs false

theorem lput_undo {x : Int} {k : Nat} {L : Items} (h : Sorted L) (hp : ∀ p ∈ L, 1 ≤ p.2) : lput x (lcnt x (lput x (lcnt x L + k) L) - k) (lput x (lcnt x L + k) L) = L := by
  have h1 := lput_sorted (x := x) (n := lcnt x L + k) h
  refine items_ext (lput_sorted h1) h (lput_pos (lput_pos hp)) hp fun y => ?_
  rw [lcnt_lput h1, lcnt_lput h, lcnt_lput h, if_pos rfl]
  by_cases hy : y = x
  · subst hy; rw [if_pos rfl]; omega
  · rw [if_neg hy, if_neg hy]

set_option maxRecDepth 100000 in
set_option maxHeartbeats 4000000 in
theorem bagUndo_walk (A : Option Addr) (n c : Nat) (f : Nat → Int) (x k : Int) (w : World) (h : IntsIn w .i64 A n f) :
    Calls Try.prog 7 #[.slice A n c, .int .i64 x, .int .i64 k] w fun e w' => e = .returned (.bool true) ∧ Below w.heap.size w w' := by
  have hl := h.len
  unfold maxLen at hl
  have HI := Lib.hid h
  clear h
  have CW := Lib.hid (fun W => works_any W)
  by_cases hn : n ≤ 300
  · go_enter Try.func7, Try.ntmps7
    go_wp2_with fail
    refine (filled_fwd A n c f w HI.out hn).mono ?_
    rintro e w1 ⟨B, t, rfl, hob, hh⟩
    have HB := Lib.hid hob
    have HH := Lib.hid hh
    obtain ⟨L0, hL0⟩ : ∃ L0, t.items = L0 := ⟨_, rfl⟩
    have HT := Lib.hid hL0
    have HZ := Lib.hid (show T.szL L0 = n by rw [← hL0, hh.szL, vals_len])
    have HLen := Lib.hid (show L0.length ≤ 301 by have := len_le_sz hob.bag.po; rw [hh.szL, vals_len, hL0] at this; omega)
    clear hL0
    clear hob hh
    go_wp2_with fail
    refine (items_c B 301 t w1 HB.out.bag).mono ?_
    rintro e w2 ⟨⟨v, rfl, hr⟩, hO2⟩
    rw [List.take_of_length_le (by rw [HT.out]; exact HLen.out), HT.out] at hr
    have HB2 := Lib.hid (HB.out.keep hO2)
    have HA := Lib.hid hr
    clear hr hO2
    go_wp2_with fail
    by_cases h1 : k < 0
    · refine (Add_arg B t x k w2 HB2.out.bag h1).mono ?_
      rintro e w3 ⟨rfl, hO3⟩
      have HB3 := Lib.hid (HB2.out.keep hO3)
      have HA3 := Lib.hid (HA.out.keep hO3)
      clear hO3
      go_wp2_with fail
      refine (items_c B 301 t _ HB3.out.bag).mono ?_
      rintro e w20 ⟨⟨v2, rfl, hr2⟩, hO20⟩
      rw [List.take_of_length_le (by rw [HT.out]; exact HLen.out), HT.out] at hr2
      have HB20 := Lib.hid (HB3.out.keep hO20)
      have HR20 := Lib.hid hr2
      have HA20 := Lib.hid (HA3.out.keep hO20)
      clear hr2 hO20
      go_wp2_with fail
      refine (same_any _ _ _ _ _ HR20.out HA20.out (by have := HLen.out; omega)).mono ?_
      rintro e w' ⟨rfl, n20, rfl⟩
      rw [show decide (L0 = L0) = true from decide_eq_true rfl]
      go_wp2_with fail
      refine (Size_c (HB20.out.keepN n20).bag HT.out).mono ?_
      rintro e w' ⟨rfl, n21, rfl⟩
      rw [HZ.out]
      go_wp2_with fail
      refine (CW.out _).mono ?_
      rintro e w9 ⟨rfl, hO⟩
      have HO := Lib.hid ((HB20.out.only.drewN (n20 + n21)).trans hO)
      clear hO
      go_wp2_with fail
      go_ret
      exact ⟨rfl, HO.out.below⟩
    · by_cases h2 : 2147483647 - (n : Int) < k
      · refine (Add_full B t x k w2 HB2.out.bag (by omega) (by rw [T.sz_items, HT.out, HZ.out]; exact h2)).mono ?_
        rintro e w3 ⟨rfl, hO3⟩
        have HB3 := Lib.hid (HB2.out.keep hO3)
        have HA3 := Lib.hid (HA.out.keep hO3)
        clear hO3
        go_wp2_with fail
        refine (items_c B 301 t _ HB3.out.bag).mono ?_
        rintro e w20 ⟨⟨v2, rfl, hr2⟩, hO20⟩
        rw [List.take_of_length_le (by rw [HT.out]; exact HLen.out), HT.out] at hr2
        have HB20 := Lib.hid (HB3.out.keep hO20)
        have HR20 := Lib.hid hr2
        have HA20 := Lib.hid (HA3.out.keep hO20)
        clear hr2 hO20
        go_wp2_with fail
        refine (same_any _ _ _ _ _ HR20.out HA20.out (by have := HLen.out; omega)).mono ?_
        rintro e w' ⟨rfl, n20, rfl⟩
        rw [show decide (L0 = L0) = true from decide_eq_true rfl]
        go_wp2_with fail
        refine (Size_c (HB20.out.keepN n20).bag HT.out).mono ?_
        rintro e w' ⟨rfl, n21, rfl⟩
        rw [HZ.out]
        go_wp2_with fail
        refine (CW.out _).mono ?_
        rintro e w9 ⟨rfl, hO⟩
        have HO := Lib.hid ((HB20.out.only.drewN (n20 + n21)).trans hO)
        clear hO
        go_wp2_with fail
        go_ret
        exact ⟨rfl, HO.out.below⟩
      · obtain ⟨m, rfl⟩ : ∃ m : Nat, k = m := ⟨k.toNat, by omega⟩
        refine (Add_ok B t x m w2 HB2.out.bag (by rw [T.sz_items, HT.out, HZ.out]; omega)).mono ?_
        rintro e w3 ⟨rfl, t3, hbec⟩
        have HB3 := Lib.hid (HB2.out.step hbec)
        have HA3 := Lib.hid (HA.out.became HB2.out.bag hbec)
        have HI3 := Lib.hid hbec.items
        clear hbec
        go_wp2_with fail
        refine (count_any A n c f x w3 (HI.out.only HB3.out.only) (by omega)).mono ?_
        rintro e w' ⟨rfl, rfl⟩
        rw [← HH.out.cnt]
        have hcx : lcnt x t3.items = lcnt x t.items + m := by rw [HI3.out, lcnt_lput HB.out.bag.so, if_pos rfl]
        have b1 := lcnt_le_sz x t.items
        rw [HT.out, HZ.out] at b1
        rw [HT.out] at hcx
        rw [HT.out]
        obtain ⟨q, hq⟩ : ∃ q, lcnt x L0 = q := ⟨_, rfl⟩
        rw [hq] at hcx b1 ⊢
        have C1 := Lib.hid (Count_c HB3.out.bag rfl x)
        rw [hcx] at C1
        have C2 := Lib.hid (Remove_none B t3 x ((q : Int) + (m : Int) + 1) w3 HB3.out.bag (by omega) (by rw [hcx]; omega))
        have C3 := Lib.hid (fun W (hO : Only [] w3 W) => Remove_ok B t3 x m W (HB3.out.keep hO).bag (by rw [hcx]; omega))
        have HU := Lib.hid (fun (t4 : T) (e : t4.items = lput x (lcnt x t3.items - m) t3.items) => show t4.items = L0 from by rw [e, HI3.out, ← HT.out]; exact lput_undo HB.out.bag.so HB.out.bag.po)
        clear hcx hq
        go_wp2_with fail
        refine C1.out.mono ?_
        rintro e w' ⟨rfl, rfl⟩
        go_wp2_with fail
        refine C2.out.mono ?_
        rintro e w4 ⟨rfl, hO4⟩
        have HB4 := Lib.hid (HB3.out.keep hO4)
        have HA4 := Lib.hid (HA3.out.keep hO4)
        have C3' := Lib.hid (C3.out w4 hO4)
        clear hO4 C3 C1 C2
        go_wp2_with fail
        refine C3'.out.mono ?_
        rintro e w5 ⟨rfl, t5, hbec⟩
        have HB5 := Lib.hid (HB4.out.step hbec)
        have HA5 := Lib.hid (HA4.out.became HB4.out.bag hbec)
        have HT5 := Lib.hid (HU.out t5 hbec.items)
        clear hbec C3'
        go_wp2_with fail
        refine (items_c B 301 t5 _ HB5.out.bag).mono ?_
        rintro e w20 ⟨⟨v2, rfl, hr2⟩, hO20⟩
        rw [List.take_of_length_le (by rw [HT5.out]; exact HLen.out), HT5.out] at hr2
        have HB20 := Lib.hid (HB5.out.keep hO20)
        have HR20 := Lib.hid hr2
        have HA20 := Lib.hid (HA5.out.keep hO20)
        clear hr2 hO20
        go_wp2_with fail
        refine (same_any _ _ _ _ _ HR20.out HA20.out (by have := HLen.out; omega)).mono ?_
        rintro e w' ⟨rfl, n20, rfl⟩
        rw [show decide (L0 = L0) = true from decide_eq_true rfl]
        go_wp2_with fail
        refine (Size_c (HB20.out.keepN n20).bag HT5.out).mono ?_
        rintro e w' ⟨rfl, n21, rfl⟩
        rw [HZ.out]
        go_wp2_with fail
        refine (CW.out _).mono ?_
        rintro e w9 ⟨rfl, hO⟩
        have HO := Lib.hid ((HB20.out.only.drewN (n20 + n21)).trans hO)
        clear hO
        go_wp2_with fail
        go_ret
        exact ⟨rfl, HO.out.below⟩
  · go_enter Try.func7, Try.ntmps7
    go_wp2_with fail
    refine (CW.out _).mono ?_
    rintro e w9 ⟨rfl, hO⟩
    have HO := Lib.hid hO
    clear hO
    go_wp2_with fail
    go_ret
    exact ⟨rfl, HO.out.below⟩
end Go.Proofs.Ytldodcojkdanjaa
