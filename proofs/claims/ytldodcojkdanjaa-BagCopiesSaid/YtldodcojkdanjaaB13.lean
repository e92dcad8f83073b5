/-
  The walk of BagCopies.
-/
import Derived.Test.YtldodcojkdanjaaB12
namespace Go.Proofs.Ytldodcojkdanjaa
open Go.RowKit
set_option linter.unusedSimpArgs false

/-- Two bags of the call's own. -/
structure Two (w W : World) (B : Nat) (t : T) (C : Nat) (u : T) : Prop where
  left : OwnBag w W B t
  right : OwnBag w W C u
  apart : Apart B t C u
theorem Two.keep {w W W' : World} {B C : Nat} {t u : T} (h : Two w W B t C u) (k : Only [] W W') : Two w W' B t C u := ⟨h.left.keep k, h.right.keep k, h.apart⟩
theorem Two.stepL {w W W' : World} {B C : Nat} {t t' u : T} {L : Items} (h : Two w W B t C u) (k : Became W W' B t t' L) : Two w W' B t' C u := by
  obtain ⟨a, b⟩ := h.apart.step h.left.bag h.right.bag k
  exact ⟨h.left.step k, ⟨b, h.right.new, (h.left.step k).only⟩, a⟩
theorem Two.stepR {w W W' : World} {B C : Nat} {t u u' : T} {L : Items} (h : Two w W B t C u) (k : Became W W' C u u' L) : Two w W' B t C u' := by
  obtain ⟨a, b⟩ := h.apart.symm.step h.right.bag h.left.bag k
  exact ⟨⟨b, h.left.new, (h.right.step k).only⟩, h.right.step k, a.symm⟩

theorem drop_eqs (f : Nat → Int) (n k : Nat) (hk : k < n) (y : Int) : eqs y ((vals f n).drop k) = (if f k = y then 1 else 0) + eqs y ((vals f n).drop (k + 1)) := by
  rw [List.drop_eq_getElem_cons (by rw [vals_len]; exact hk)]
  have : (vals f n)[k]'(by rw [vals_len]; exact hk) = f k := by simp [vals]
  rw [this]
  simp only [eqs, List.countP_cons]
  by_cases h : f k = y <;> simp [h] <;> omega

set_option maxRecDepth 100000 in
set_option maxHeartbeats 4000000 in
theorem bagCopies_walk (A : Option Addr) (n c : Nat) (f : Nat → Int) (x : Int) (w : World) (h : IntsIn w .i64 A n f) :
    Calls Try.prog 8 #[.slice A n c, .int .i64 x] w fun e w' => e = .returned (.bool true) ∧ Below w.heap.size w w' := by
  have hl := h.len
  unfold maxLen at hl
  have HI := Lib.hid h
  clear h
  have CW := Lib.hid (fun W => works_any W)
  by_cases hn : n ≤ 300
  · go_enter Try.func8, Try.ntmps8
    go_wp2_with fail
    refine (filled_fwd A n c f w HI.out hn).mono ?_
    rintro e w1 ⟨B, t, rfl, hob, hh⟩
    have HB := Lib.hid hob
    obtain ⟨L0, hL0⟩ : ∃ L0, t.items = L0 := ⟨_, rfl⟩
    have HT := Lib.hid hL0
    have HZ := Lib.hid (show T.szL L0 = n by rw [← hL0, hh.szL, vals_len])
    have HCN := Lib.hid (show ∀ y, lcnt y L0 = eqs y (vals f n) from fun y => by rw [← hL0, hh.cnt])
    have HLen := Lib.hid (show L0.length ≤ 300 by have := len_le_sz hob.bag.po; rw [hh.szL, vals_len, hL0] at this; omega)
    clear hob hh hL0
    go_wp2_with fail
    refine (items_c B 301 t w1 HB.out.bag).mono ?_
    rintro e w2 ⟨⟨v, rfl, hr⟩, hO2⟩
    rw [HT.out, List.take_of_length_le (by have := HLen.out; omega)] at hr
    have HB2 := Lib.hid (HB.out.keep hO2)
    have HA := Lib.hid hr
    clear hr hO2 HB
    go_wp2_with fail
    refine (Copy_any B t w2 HB2.out.bag).mono ?_
    rintro e w3 ⟨C, u, rfl, hC, hi, hnew, hO3⟩
    have HA3 := Lib.hid (HA.out.keep hO3)
    have HU := Lib.hid (show u.items = L0 by rw [hi, HT.out])
    have H3 := Lib.hid (show Two w w3 B t C u from ⟨HB2.out.keep hO3, ⟨hC, fun k hk => Nat.le_trans HB2.out.only.size (hnew k hk), HB2.out.only.trans hO3⟩, fun k hk hm => by have := HB2.out.bag.lt k hk; have := hnew k hm; omega⟩)
    clear hC hi hnew hO3 HB2 HA
    go_wp2_with fail
    refine (items_c C 301 u w3 H3.out.right.bag).mono ?_
    rintro e w4 ⟨⟨v4, rfl, hr⟩, hO4⟩
    rw [HU.out, List.take_of_length_le (by have := HLen.out; omega)] at hr
    have H4 := Lib.hid (H3.out.keep hO4)
    have HA4 := Lib.hid (HA3.out.keep hO4)
    have HR4 := Lib.hid hr
    clear hr hO4 H3 HA3
    go_wp2_with fail
    refine (same_any _ _ _ _ _ HR4.out HA4.out (by have := HLen.out; omega)).mono ?_
    rintro e w' ⟨rfl, n1, rfl⟩
    rw [show decide (L0 = L0) = true from decide_eq_true rfl]
    have H5 := Lib.hid (H4.out.keep ((Only.refl [] w4).drewN n1))
    have HA5 := Lib.hid (HA4.out.keep ((Only.refl [] w4).drewN n1))
    clear HR4 H4 HA4
    generalize w4.drewN n1 = w5 at *
    go_wp2_with fail
    refine (Add_ok C u x 3 w5 H5.out.right.bag (by rw [T.sz_items, HU.out, HZ.out]; omega)).mono ?_
    rintro e w6 ⟨rfl, u6, hbec⟩
    have HA6 := Lib.hid (HA5.out.became H5.out.right.bag hbec)
    have H6 := Lib.hid (H5.out.stepR hbec)
    clear hbec H5 HA5 HU
    go_wp2_with fail
    go_loopw [8] (fun i wr => ∃ (k : Nat) (u : T), k ≤ n + 1 ∧ i = .int .i64 k ∧ Hid (Two w wr B t C u) ∧ Hid (Reads wr v L0)) (fun i _ => n + 1 - (intOf i).toNat)
    case atStart => exact ⟨0, u6, Nat.zero_le _, rfl, H6, HA6⟩
    case round =>
      obtain ⟨k, u, hk, rfl, hT, hR⟩ := hrel
      by_cases hlt : k < n
      · obtain ⟨b, off, rfl, hc⟩ := (HI.out.only hT.out.left.only).cell hlt
        go_wp2_with fail
        refine (Remove1 C u (f k) wr hT.out.right.bag).mono ?_
        rintro e w7 ⟨r, u7, L7, rfl, hbec⟩
        have H7 := Lib.hid (hT.out.stepR hbec)
        have R7 := Lib.hid (hR.out.became hT.out.right.bag hbec)
        clear hbec hT hR
        go_wp2_with fail
        go_roundw
        case rel => exact ⟨k + 2, u7, by omega, by go_num, H7, R7⟩
        case measure => simp [intOf]; omega
      · go_wp2_with fail
        refine (items_c B 301 t wr hT.out.left.bag).mono ?_
        rintro e w8 ⟨⟨v8, rfl, hr⟩, hO8⟩
        rw [HT.out, List.take_of_length_le (by have := HLen.out; omega)] at hr
        have H8 := Lib.hid (hT.out.keep hO8)
        have HA8 := Lib.hid (hR.out.keep hO8)
        have HR8 := Lib.hid hr
        clear hr hO8 hT hR
        go_wp2_with fail
        refine (same_any _ _ _ _ _ HR8.out HA8.out (by have := HLen.out; omega)).mono ?_
        rintro e w' ⟨rfl, n2, rfl⟩
        rw [show decide (L0 = L0) = true from decide_eq_true rfl]
        have H9 := Lib.hid (H8.out.keep ((Only.refl [] w8).drewN n2))
        clear HR8 H8 HA8
        generalize w8.drewN n2 = w9 at *
        go_wp2_with fail
        refine (items_c C 302 u w9 H9.out.right.bag).mono ?_
        rintro e w10 ⟨⟨v10, rfl, hr⟩, hO10⟩
        have H10 := Lib.hid (H9.out.keep hO10)
        have HR10 := Lib.hid hr
        clear hr hO10 H9
        go_wp2_with fail
        go_loopw [10] (fun i wr => ∃ (j : Nat) (t : T), j ≤ n ∧ i = .int .i64 j ∧ Hid (Two w wr B t C u) ∧ Hid (Reads wr v10 (u.items.take 302)) ∧ Hid (∀ y, lcnt y t.items = eqs y ((vals f n).drop j))) (fun i _ => n - (intOf i).toNat)
        case atStart => exact ⟨0, t, Nat.zero_le _, rfl, H10, HR10, Lib.hid (fun y => by rw [HT.out, HCN.out]; rfl)⟩
        case round =>
          obtain ⟨j, t, hj, rfl, hT, hR, hE⟩ := hrel
          by_cases hltj : j < n
          · obtain ⟨b, off, rfl, hc⟩ := (HI.out.only hT.out.left.only).cell hltj
            have hpos : 1 ≤ lcnt (f j) t.items := by rw [hE.out, drop_eqs f n j hltj, if_pos rfl]; omega
            have CR := Lib.hid (Remove_ok B t (f j) 1 wr hT.out.left.bag hpos)
            have HNX := Lib.hid (show ∀ y, lcnt y (lput (f j) (lcnt (f j) t.items - 1) t.items) = eqs y ((vals f n).drop (j + 1)) from fun y => by
              rw [lcnt_lput hT.out.left.bag.so]
              have e1 := hE.out y
              rw [drop_eqs f n j hltj] at e1
              by_cases hy : y = f j
              · rw [if_pos hy]; subst hy; rw [if_pos rfl] at e1; omega
              · rw [if_neg hy]; rw [if_neg (fun e => hy e.symm)] at e1; omega)
            clear hpos
            go_wp2_with fail
            refine CR.out.mono ?_
            rintro e w11 ⟨rfl, t11, hbec⟩
            have H11 := Lib.hid (hT.out.stepL hbec)
            have R11 := Lib.hid (hR.out.became hT.out.left.bag hbec)
            have E11 := Lib.hid (show ∀ y, lcnt y t11.items = eqs y ((vals f n).drop (j + 1)) from fun y => by rw [hbec.items]; exact HNX.out y)
            clear hbec hT hR hE CR HNX
            go_wp2_with fail
            go_roundw
            case rel => exact ⟨j + 1, t11, by omega, by go_num, H11, R11, E11⟩
            case measure => simp [intOf]; omega
          · have hnil : t.items = [] := items_ext hT.out.left.bag.so List.Pairwise.nil hT.out.left.bag.po (fun p hp => by simp at hp) fun y => by
              rw [hE.out y, List.drop_of_length_le (by rw [vals_len]; omega)]; rfl
            have CZ := Lib.hid (Size_c hT.out.left.bag hnil)
            have CD := Lib.hid (fun m => Distinct_c (hT.out.left.keepN m).bag hnil)
            rw [show T.szL [] = 0 from rfl] at CZ
            simp only [List.length_nil] at CD
            clear hnil hE
            go_wp2_with fail
            refine CZ.out.mono ?_
            rintro e w' ⟨rfl, m1, rfl⟩
            go_wp2_with fail
            refine (CD.out _).mono ?_
            rintro e w' ⟨rfl, m2, rfl⟩
            go_wp2_with fail
            refine (items_c C 302 u _ (hT.out.right.keepN _).bag).mono ?_
            rintro e w12 ⟨⟨v12, rfl, hr⟩, hO12⟩
            have R12 := Lib.hid hr
            have HR12 := Lib.hid ((hR.out.keep ((Only.refl [] wr).drewN _)).keep hO12)
            have HO12 := Lib.hid ((hT.out.left.only.drewN _).trans hO12)
            clear hr hO12
            go_wp2_with fail
            refine (same_any _ _ _ _ _ R12.out HR12.out (by rw [List.length_take]; omega)).mono ?_
            rintro e w' ⟨rfl, m3, rfl⟩
            rw [show decide (u.items.take 302 = u.items.take 302) = true from decide_eq_true rfl]
            go_wp2_with fail
            refine (CW.out _).mono ?_
            rintro e w13 ⟨rfl, hO⟩
            have HO := Lib.hid ((HO12.out.drewN m3).trans hO)
            clear hO
            go_wp2_with fail
            go_ret
            exact ⟨rfl, HO.out.below⟩
  · go_enter Try.func8, Try.ntmps8
    go_wp2_with fail
    refine (CW.out _).mono ?_
    rintro e w9 ⟨rfl, hO⟩
    have HO := Lib.hid hO
    clear hO
    go_wp2_with fail
    go_ret
    exact ⟨rfl, HO.out.below⟩
end Go.Proofs.Ytldodcojkdanjaa
