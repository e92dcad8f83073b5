/-
  The walk of BagOrder.
-/
import Derived.Test.YtldodcojkdanjaaB9
import Derived.Deep.CutRange
import Derived.Deep.CutBlock
namespace Go.Proofs.Ytldodcojkdanjaa
open Go.RowKit
set_option linter.unusedSimpArgs false

theorem sorted_get {L : Items} (h : Sorted L) {i : Nat} {y : Int} {u : Nat} (hp : L[i]? = some (y, u)) : lcnt y L = u := by
  induction L generalizing i with
  | nil => simp at hp
  | cons q L ih =>
    have h2 := List.pairwise_cons.1 h
    cases i with
    | zero =>
      simp at hp
      subst hp
      simp [lcnt]
    | succ i =>
      have hp' : L[i]? = some (y, u) := by simpa using hp
      have := h2.1 _ (List.mem_of_getElem? hp')
      rw [lcnt, if_neg (by have : q.1 < y := this; omega)]
      exact ih h2.2 hp'
theorem sorted_step {L : Items} (h : Sorted L) {i : Nat} {p q : Int × Nat} (h1 : L[i]? = some p) (h2 : L[i + 1]? = some q) : p.1 < q.1 := by
  have a := List.getElem?_eq_some_iff.1 h1
  have b := List.getElem?_eq_some_iff.1 h2
  obtain ⟨a1, a2⟩ := a
  obtain ⟨b1, b2⟩ := b
  rw [← a2, ← b2]
  exact List.pairwise_iff_getElem.1 h i (i + 1) a1 b1 (by omega)
theorem szL_take_succ {L : Items} {i : Nat} {p : Int × Nat} (h : L[i]? = some p) : T.szL (L.take (i + 1)) = T.szL (L.take i) + p.2 := by
  rw [List.take_add_one, h, T.szL_append]
  simp [T.szL]

theorem Holds.same {t1 t2 : T} {zs : List Int} {W1 W2 : World} {B1 B2 : Nat} (h1 : Holds t1 zs) (h2 : Holds t2 zs) (b1 : Bag W1 B1 t1) (b2 : Bag W2 B2 t2) : t1.items = t2.items :=
  items_ext b1.so b2.so b1.po b2.po fun x => by rw [h1.cnt, h2.cnt]

set_option maxRecDepth 100000 in
set_option maxHeartbeats 4000000 in
theorem bagOrder_walk (A : Option Addr) (n c : Nat) (f : Nat → Int) (s : Nat) (w : World) (h : IntsIn w .i64 A n f) (hs : s ≤ 255) :
    Calls Try.prog 6 #[.slice A n c, .int .u8 s] w fun e w' => e = .returned (.bool true) ∧ Below w.heap.size w w' := by
  have hl := h.len
  unfold maxLen at hl
  have HI := Lib.hid h
  clear h
  have CW := Lib.hid (fun W => works_any W)
  by_cases hn : n ≤ 300
  · go_enter Try.func6, Try.ntmps6
    go_wp2_with fail
    refine (filled_fwd A n c f w HI.out hn).mono ?_
    rintro e w1 ⟨B1, t1, rfl, hob1, hh1⟩
    have HB1 := Lib.hid hob1
    have HH1 := Lib.hid hh1
    clear hob1 hh1
    go_wp2_with fail
    refine (filled_back A n c f w1 (HI.out.only HB1.out.only) hn).mono ?_
    rintro e w2 ⟨B2, t2, rfl, hob2, hh2⟩
    have HB2 := Lib.hid (HB1.out.keep hob2.only)
    have HC2 := Lib.hid hob2
    obtain ⟨L0, hL0⟩ : ∃ L0, t1.items = L0 := ⟨_, rfl⟩
    have HT := Lib.hid hL0
    have HT2 := Lib.hid (show t2.items = L0 by rw [← hL0]; exact (HH1.out.same hh2 HB1.out.bag hob2.bag).symm)
    have HZ := Lib.hid (show T.szL L0 = n by rw [← hL0, HH1.out.szL, vals_len])
    have HS := Lib.hid (show Sorted L0 from hL0 ▸ HB1.out.bag.so)
    have HLen := Lib.hid (show L0.length ≤ 300 by have := len_le_sz HB1.out.bag.po; rw [HH1.out.szL, vals_len, hL0] at this; omega)
    have HCN := Lib.hid (show ∀ y, eqs y (vals f n) = lcnt y L0 from fun y => by rw [← HH1.out.cnt, hL0])
    clear hob2 hh2 hL0 HB1 HH1
    go_wp2_with fail
    refine (items_c B1 301 t1 w2 HB2.out.bag).mono ?_
    rintro e w3 ⟨⟨v, rfl, hr⟩, hO3⟩
    rw [HT.out, List.take_of_length_le (by have := HLen.out; omega)] at hr
    have HB3 := Lib.hid (HB2.out.keep hO3)
    have HC3 := Lib.hid (HC2.out.keep hO3)
    have HR3 := Lib.hid hr
    clear hr hO3 HB2 HC2
    go_wp2_with fail
    refine (items_c B2 301 t2 w3 HC3.out.bag).mono ?_
    rintro e w4 ⟨⟨v2, rfl, hr⟩, hO4⟩
    rw [HT2.out, List.take_of_length_le (by have := HLen.out; omega)] at hr
    have HB4 := Lib.hid (HB3.out.keep hO4)
    have HR4 := Lib.hid (HR3.out.keep hO4)
    have HQ4 := Lib.hid hr
    clear hr hO4 HB3 HC3 HR3
    go_wp2_with fail
    refine (same_any _ _ _ _ _ HR4.out HQ4.out (by have := HLen.out; omega)).mono ?_
    rintro e w' ⟨rfl, n1, rfl⟩
    rw [show decide (L0 = L0) = true from decide_eq_true rfl]
    obtain ⟨A7, c7, rfl⟩ : ∃ A7 c7, v = .slice A7 L0.length c7 := by
      obtain ⟨A7, c7, e, _⟩ := HR4.out
      exact ⟨A7, c7, e⟩
    have hcap : L0.length ≤ c7 ∧ c7 ≤ maxLen := by
      obtain ⟨A', c', e, h1, h2, _⟩ := HR4.out
      cases e
      exact ⟨h1, h2⟩
    obtain ⟨hcap1, hcap2⟩ := hcap
    obtain ⟨N, hN⟩ : ∃ N, L0.length = N := ⟨_, rfl⟩
    have HN := Lib.hid hN
    have hlen := HLen.out
    rw [hN] at HR4 hcap1 hlen ⊢
    clear hN HQ4
    go_wp2_with fail
    refine (Distinct_c (HB4.out.keepN n1).bag HT.out).mono ?_
    rintro e w' ⟨rfl, n2, rfl⟩
    rw [HN.out]
    go_upto_block 0 with (fail)
    go_cut [8, 9] from 10 (fun a i wc => a = .int .i64 (n : Nat) ∧ ∃ m, wc = w4.drewN m)
    case first =>
     go_wp2_with fail
     go_loopw [8, 9] (fun a i wr => ∃ (k m : Nat), k ≤ N ∧ i = .int .i64 k ∧ a = .int .i64 (T.szL (L0.take k)) ∧ wr = w4.drewN m) (fun _ i _ => N - (intOf i).toNat)
     case atStart => exact ⟨0, n1 + n2, Nat.zero_le _, rfl, rfl, rfl⟩
     case round =>
       obtain ⟨k, m, hk, rfl, rfl, rfl⟩ := hrel
       by_cases hlt : k < N
       · obtain ⟨⟨y, u⟩, hp⟩ : ∃ p, L0[k]? = some p := ⟨_, List.getElem?_eq_getElem (by rw [HN.out]; exact hlt)⟩
         obtain ⟨g, rfl, a1, a2⟩ := HR4.out.cells hp
         simp only at a1 a2
         have hz := szL_take_succ hp
         have hz2 : T.szL (L0.take (k + 1)) ≤ n := by
           have := T.szL_append (L0.take (k + 1)) (L0.drop (k + 1))
           rw [List.take_append_drop, HZ.out] at this
           omega
         simp only at hz
         obtain ⟨z, hzz⟩ : ∃ z, T.szL (L0.take k) = z := ⟨_, rfl⟩
         rw [hzz] at hz ⊢
         have HZK := Lib.hid hz
         have zb : z + u ≤ n := by omega
         have CT := Lib.hid (fun j => count_any A n c f y (w4.drewN j) (HI.out.only (HB4.out.only.drewN j)) (by omega))
         rw [HCN.out y, sorted_get HS.out hp] at CT
         have HP := Lib.hid hp
         clear hz hz2 hzz hp
         by_cases h0 : k = 0
         · have q0 : decide ((0 : Int) < (k : Int)) = false := by simp; omega
           have q0n : decide (0 < k) = false := by simp; omega
           have q1 : ((u : Int) != (u : Int)) = false := by simp
           clear h0
           go_wp2_with fail
           refine (CT.out _).mono ?_
           rintro e w' ⟨rfl, rfl⟩
           go_wp2_with fail
           go_quiet (fail)
           go_wp2_with fail
           go_roundw
           case rel => exact ⟨k + 1, m + nq, by omega, by go_num, by rw [HZK.out]; go_num, rfl⟩
           case measure => simp [intOf]; omega
         · obtain ⟨j, rfl⟩ : ∃ j, k = j + 1 := ⟨k - 1, by omega⟩
           obtain ⟨⟨y2, u2⟩, hp2⟩ : ∃ p, L0[j]? = some p := ⟨_, List.getElem?_eq_getElem (by rw [HN.out]; omega)⟩
           have hyy := sorted_step HS.out hp2 HP.out
           obtain ⟨g', e', b1, _⟩ := HR4.out.cells hp2
           cases e'
           simp only at b1 hyy
           have q0 : decide ((0 : Int) < ((j + 1 : Nat) : Int)) = true := decide_eq_true (by omega)
           have q0n : decide (0 < j + 1) = true := by simp
           have q1 : ((u : Int) != (u : Int)) = false := by simp
           have q2 : decide (y ≤ y2) = false := by simp; omega
           have q3 : ((j + 1 : Nat) : Int) - 1 = (j : Int) := by omega
           have q4 : IntKind.i64.wrap (((j + 1 : Nat) : Int) - 1) = (j : Int) := by rw [q3]; exact IntWalk.i64_in _ (by omega)
           clear h0 hp2
           go_wp2_with fail
           refine (CT.out _).mono ?_
           rintro e w' ⟨rfl, rfl⟩
           go_wp2_with fail
           go_quiet (fail)
           go_wp2_with fail
           go_roundw
           case rel => exact ⟨j + 1 + 1, m + nq, by omega, by go_num, by rw [HZK.out]; go_num, rfl⟩
           case measure => simp [intOf]; omega
       · obtain rfl : k = N := by omega
         have hzn : T.szL (L0.take k) = n := by rw [List.take_of_length_le (by rw [HN.out]; omega), HZ.out]
         rw [hzn]
         clear hzn
         go_wp2_with fail
         go_meet
         case rel => exact ⟨rfl, m, rfl⟩
    case rest =>
      obtain ⟨rfl, m, rfl⟩ := hcut
      have q9 : ((n : Int) == (n : Int)) = true := by simp
      obtain ⟨M, hM⟩ : ∃ M : Nat, M = min s N := ⟨_, rfl⟩
      have hMk : M ≤ N := by omega
      have HRM := Lib.hid (show Reads w4 (.slice A7 M c7) (L0.take M) from by
        have := HR4.out
        rw [← HN.out] at this hMk
        exact this.take M hMk)
      have CI := Lib.hid (fun j => items_c B1 M t1 (w4.drewN j) (HB4.out.keepN j).bag)
      rw [HT.out] at CI
      have hdd : M ≤ c7 := by omega
      by_cases hsk : (N : Int) < (s : Int)
      · obtain rfl : M = N := by omega
        clear hM
        go_wp2_with fail
        clear hl hcap2
        refine wp_region_any (by kernel_rfl) ?_
        change wpAny _ _ _ _ _ _ _ (World.drew _)
        refine wpAny_take (i := 0) (v := ?v0) rfl (by kernel_rfl) (by kernel_rfl) (by kernel_rfl) (fun _ _ _ h => h) (Or.inl ⟨?w0, ?hy0⟩) ?rest0
        case w0 => rfl
        case hy0 => (intro w; go_simp; with_reducible rfl)
        refine wpAny_take (i := 1) (v := ?v1) rfl (by kernel_rfl) (by kernel_rfl) (by kernel_rfl) (fun _ _ _ h => h) (Or.inl ⟨?w1, ?hy1⟩) ?rest1
        case w1 => rfl
        case hy1 => (intro w; go_simp; with_reducible rfl)
        refine wpAny_take (i := 2) (v := ?v2) rfl (by kernel_rfl) (by kernel_rfl) (by kernel_rfl) (fun _ _ _ h => h) (Or.inl ⟨?w2, ?hy2⟩) ?rest2
        case w2 => rfl
        case hy2 => (intro w; go_simp; with_reducible rfl)
        refine wpAny_take (i := 3) (v := ?v3) rfl (by kernel_rfl) (by kernel_rfl) (by kernel_rfl) (fun _ _ _ h => h) (Or.inl ⟨?w3, ?hy3⟩) ?rest3
        case w3 => rfl
        case hy3 => (intro w; go_simp; with_reducible rfl)
        refine wpAny_take (i := 4) (v := ?v4) rfl (by kernel_rfl) (by kernel_rfl) (by kernel_rfl) (fun _ _ _ h => h) (Or.inl ⟨?w4, ?hy4⟩) ?rest4
        case w4 => rfl
        case hy4 => (intro w; go_simp; with_reducible rfl)
        refine wpAny_take (i := 5) (v := ?v5) rfl (by kernel_rfl) (by kernel_rfl) (by kernel_rfl) (fun _ _ _ h => h) (Or.inl ⟨?w5, ?hy5⟩) ?rest5
        case w5 => rfl
        case hy5 => (intro w; go_simp; with_reducible rfl)
        refine wpAny_take (i := 6) (v := ?v6) rfl (by kernel_rfl) (by kernel_rfl) (by kernel_rfl) (fun _ _ _ h => h) (Or.inl ⟨?w6, ?hy6⟩) ?rest6
        case w6 => kernel_rfl
        case hy6 => (intro w; go_simp; with_reducible rfl)
        refine wpAny_take (i := 8) (v := ?v8) rfl (by kernel_rfl) (by kernel_rfl) (by kernel_rfl) (fun _ _ _ h => h) (Or.inl ⟨?w8, ?hy8⟩) ?rest8
        case w8 => kernel_rfl
        case hy8 => (intro w; go_simp; with_reducible rfl)
        refine wpAny_take (i := 9) (v := ?v9) rfl (by kernel_rfl) (by kernel_rfl) (by kernel_rfl) (fun _ _ _ h => h) (Or.inl ⟨?w9, ?hy9⟩) ?rest9
        case w9 => kernel_rfl
        case hy9 => (intro w; go_simp; with_reducible rfl)
        refine wpAny_take (i := 10) (v := ?v10) rfl (by kernel_rfl) (by kernel_rfl) (by kernel_rfl) (fun _ _ _ h => h) (Or.inl ⟨?w10, ?hy10⟩) ?rest10
        case w10 => kernel_rfl
        case hy10 => (intro w; go_simp; with_reducible rfl)
        refine wpAny_ready (rs := [7]) (by kernel_rfl) (by simp) ?_
        refine AllReady.cons rfl (fun K hK => ?_) AllReady.nil
        go_simp
        refine (CI.out _).mono ?_
        rintro e w6 ⟨⟨v6, rfl, hr6⟩, hO6⟩
        have HR6 := Lib.hid hr6
        have HO6 := Lib.hid ((HB4.out.keepN _).only.trans hO6)
        have HRN := Lib.hid ((HRM.out.keep ((Only.refl [] w4).drewN _)).keep hO6)
        clear hr6 hO6
        refine hK _ _ ?_
        clear hK K
        refine wpAny_ready (rs := [11]) (by kernel_rfl) (by simp) ?_
        refine AllReady.cons rfl (fun K hK => ?_) AllReady.nil
        go_simp
        refine (same_any _ _ _ _ _ HR6.out HRN.out (by rw [List.length_take]; omega)).mono ?_
        rintro e w' ⟨rfl, n6, rfl⟩
        rw [show decide (L0.take M = L0.take M) = true from decide_eq_true rfl]
        refine hK _ _ ?_
        clear hK K
        refine wpAny_take (i := 12) (v := ?v12) rfl (by kernel_rfl) (by kernel_rfl) (by kernel_rfl) (fun _ _ _ h => h) (Or.inl ⟨?w12, ?hy12⟩) ?rest12
        case w12 => kernel_rfl
        case hy12 => (intro w; go_simp; with_reducible rfl)
        refine wpAny_take (i := 13) (v := ?v13) rfl (by kernel_rfl) (by kernel_rfl) (by kernel_rfl) (fun _ _ _ h => h) (Or.inl ⟨?w13, ?hy13⟩) ?rest13
        case w13 => kernel_rfl
        case hy13 => (intro w; go_simp; with_reducible rfl)
        refine wpAny_ready (rs := [14]) (by kernel_rfl) (by simp) ?_
        refine AllReady.cons rfl (fun K hK => ?_) AllReady.nil
        go_simp
        refine (CW.out _).mono ?_
        rintro e w9 ⟨rfl, hO⟩
        have HO := Lib.hid ((HO6.out.drewN n6).trans hO)
        clear hO
        refine hK _ _ ?_
        clear hK K
        refine wpAny_take (i := 15) (v := ?v15) rfl (by kernel_rfl) (by kernel_rfl) (by kernel_rfl) (fun _ _ _ h => h) (Or.inl ⟨?w15, ?hy15⟩) ?rest15
        case w15 => kernel_rfl
        case hy15 => (intro w; go_simp; with_reducible rfl)
        refine wpAny_take (i := 16) (v := ?v16) rfl (by kernel_rfl) (by kernel_rfl) (by kernel_rfl) (fun _ _ _ h => h) (Or.inl ⟨?w16, ?hy16⟩) ?rest16
        case w16 => kernel_rfl
        case hy16 => (intro w; go_simp; with_reducible rfl)
        refine wpAny_done (by kernel_rfl) ?_ _
        go_wp2_with fail
        go_ret
        exact ⟨rfl, HO.out.below⟩
      · obtain rfl : M = s := by omega
        clear hM
        go_wp2_with fail
        clear hl hcap2
        refine wp_region_any (by kernel_rfl) ?_
        change wpAny _ _ _ _ _ _ _ (World.drew _)
        refine wpAny_take (i := 0) (v := ?v0b) rfl (by kernel_rfl) (by kernel_rfl) (by kernel_rfl) (fun _ _ _ h => h) (Or.inl ⟨?w0b, ?hy0b⟩) ?rest0b
        case w0b => rfl
        case hy0b => (intro w; go_simp; with_reducible rfl)
        refine wpAny_take (i := 1) (v := ?v1b) rfl (by kernel_rfl) (by kernel_rfl) (by kernel_rfl) (fun _ _ _ h => h) (Or.inl ⟨?w1b, ?hy1b⟩) ?rest1b
        case w1b => rfl
        case hy1b => (intro w; go_simp; with_reducible rfl)
        refine wpAny_take (i := 2) (v := ?v2b) rfl (by kernel_rfl) (by kernel_rfl) (by kernel_rfl) (fun _ _ _ h => h) (Or.inl ⟨?w2b, ?hy2b⟩) ?rest2b
        case w2b => rfl
        case hy2b => (intro w; go_simp; with_reducible rfl)
        refine wpAny_take (i := 3) (v := ?v3b) rfl (by kernel_rfl) (by kernel_rfl) (by kernel_rfl) (fun _ _ _ h => h) (Or.inl ⟨?w3b, ?hy3b⟩) ?rest3b
        case w3b => rfl
        case hy3b => (intro w; go_simp; with_reducible rfl)
        refine wpAny_take (i := 4) (v := ?v4b) rfl (by kernel_rfl) (by kernel_rfl) (by kernel_rfl) (fun _ _ _ h => h) (Or.inl ⟨?w4b, ?hy4b⟩) ?rest4b
        case w4b => rfl
        case hy4b => (intro w; go_simp; with_reducible rfl)
        refine wpAny_take (i := 5) (v := ?v5b) rfl (by kernel_rfl) (by kernel_rfl) (by kernel_rfl) (fun _ _ _ h => h) (Or.inl ⟨?w5b, ?hy5b⟩) ?rest5b
        case w5b => rfl
        case hy5b => (intro w; go_simp; with_reducible rfl)
        refine wpAny_take (i := 6) (v := ?v6b) rfl (by kernel_rfl) (by kernel_rfl) (by kernel_rfl) (fun _ _ _ h => h) (Or.inl ⟨?w6b, ?hy6b⟩) ?rest6b
        case w6b => kernel_rfl
        case hy6b => (intro w; go_simp; with_reducible rfl)
        refine wpAny_take (i := 8) (v := ?v8b) rfl (by kernel_rfl) (by kernel_rfl) (by kernel_rfl) (fun _ _ _ h => h) (Or.inl ⟨?w8b, ?hy8b⟩) ?rest8b
        case w8b => kernel_rfl
        case hy8b => (intro w; go_simp; with_reducible rfl)
        refine wpAny_take (i := 9) (v := ?v9b) rfl (by kernel_rfl) (by kernel_rfl) (by kernel_rfl) (fun _ _ _ h => h) (Or.inl ⟨?w9b, ?hy9b⟩) ?rest9b
        case w9b => kernel_rfl
        case hy9b => (intro w; go_simp; with_reducible rfl)
        refine wpAny_take (i := 10) (v := ?v10b) rfl (by kernel_rfl) (by kernel_rfl) (by kernel_rfl) (fun _ _ _ h => h) (Or.inl ⟨?w10b, ?hy10b⟩) ?rest10b
        case w10b => kernel_rfl
        case hy10b => (intro w; go_simp; with_reducible rfl)
        refine wpAny_ready (rs := [7]) (by kernel_rfl) (by simp) ?_
        refine AllReady.cons rfl (fun K hK => ?_) AllReady.nil
        go_simp
        refine (CI.out _).mono ?_
        rintro e w6 ⟨⟨v6, rfl, hr6⟩, hO6⟩
        have HR6 := Lib.hid hr6
        have HO6 := Lib.hid ((HB4.out.keepN _).only.trans hO6)
        have HRN := Lib.hid ((HRM.out.keep ((Only.refl [] w4).drewN _)).keep hO6)
        clear hr6 hO6
        refine hK _ _ ?_
        clear hK K
        refine wpAny_ready (rs := [11]) (by kernel_rfl) (by simp) ?_
        refine AllReady.cons rfl (fun K hK => ?_) AllReady.nil
        go_simp
        refine (same_any _ _ _ _ _ HR6.out HRN.out (by rw [List.length_take]; omega)).mono ?_
        rintro e w' ⟨rfl, n6, rfl⟩
        rw [show decide (L0.take M = L0.take M) = true from decide_eq_true rfl]
        refine hK _ _ ?_
        clear hK K
        refine wpAny_take (i := 12) (v := ?v12b) rfl (by kernel_rfl) (by kernel_rfl) (by kernel_rfl) (fun _ _ _ h => h) (Or.inl ⟨?w12b, ?hy12b⟩) ?rest12b
        case w12b => kernel_rfl
        case hy12b => (intro w; go_simp; with_reducible rfl)
        refine wpAny_take (i := 13) (v := ?v13b) rfl (by kernel_rfl) (by kernel_rfl) (by kernel_rfl) (fun _ _ _ h => h) (Or.inl ⟨?w13b, ?hy13b⟩) ?rest13b
        case w13b => kernel_rfl
        case hy13b => (intro w; go_simp; with_reducible rfl)
        refine wpAny_ready (rs := [14]) (by kernel_rfl) (by simp) ?_
        refine AllReady.cons rfl (fun K hK => ?_) AllReady.nil
        go_simp
        refine (CW.out _).mono ?_
        rintro e w9 ⟨rfl, hO⟩
        have HO := Lib.hid ((HO6.out.drewN n6).trans hO)
        clear hO
        refine hK _ _ ?_
        clear hK K
        refine wpAny_take (i := 15) (v := ?v15b) rfl (by kernel_rfl) (by kernel_rfl) (by kernel_rfl) (fun _ _ _ h => h) (Or.inl ⟨?w15b, ?hy15b⟩) ?rest15b
        case w15b => kernel_rfl
        case hy15b => (intro w; go_simp; with_reducible rfl)
        refine wpAny_take (i := 16) (v := ?v16b) rfl (by kernel_rfl) (by kernel_rfl) (by kernel_rfl) (fun _ _ _ h => h) (Or.inl ⟨?w16b, ?hy16b⟩) ?rest16b
        case w16b => kernel_rfl
        case hy16b => (intro w; go_simp; with_reducible rfl)
        refine wpAny_done (by kernel_rfl) ?_ _
        go_wp2_with fail
        go_ret
        exact ⟨rfl, HO.out.below⟩
  · go_enter Try.func6, Try.ntmps6
    go_wp2_with fail
    refine (CW.out _).mono ?_
    rintro e w9 ⟨rfl, hO⟩
    have HO := Lib.hid hO
    clear hO
    go_wp2_with fail
    go_ret
    exact ⟨rfl, HO.out.below⟩
theorem bagOrder_walkI (A : Option Addr) (n c : Nat) (f : Nat → Int) (s : Int) (w : World) (h : IntsIn w .i64 A n f) (h0 : 0 ≤ s) (h1 : s ≤ 255) :
    Calls Try.prog 6 #[.slice A n c, .int .u8 s] w fun e w' => e = .returned (.bool true) ∧ Below w.heap.size w w' := by
  obtain ⟨m, rfl⟩ : ∃ m : Nat, s = m := ⟨s.toNat, by omega⟩
  exact bagOrder_walk A n c f m w h (by omega)
end Go.Proofs.Ytldodcojkdanjaa
