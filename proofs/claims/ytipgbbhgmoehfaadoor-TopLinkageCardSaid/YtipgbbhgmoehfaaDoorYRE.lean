import Derived.Test.YtipgbbhgmoehfaaDoorYRD
/-
  linkage: the iterator over the pairs of clusters.
-/
namespace Go.Proofs.YtipgbbhgmoehfaaDoor
open Go.RowKit Go.Shelf
attribute [local go_sem] Oper.semAt_some
set_option linter.unusedSimpArgs false
set_option linter.unusedVariables false
set_option linter.unusedSectionVars false

set_option maxRecDepth 100000 in
set_option maxHeartbeats 4000000 in
theorem pairs1_in (m : Nat) (hm : 2 ≤ m) {CB BB n cp Bx : Nat} {S : Nat → Nat} {Bt : Nat → Nat → Int} (gs : List Nat) (h1 : CB ∉ gs) (h2 : BB ∉ gs) (hB : Bx ∉ gs) (hn : n ≤ 128) (hS : ∀ i, S i ≤ 128) (w : World) (hC : Cls w CB BB n cp S Bt)
    (hb : w.heap[Bx]? = some (.cells #[.pointer (some ⟨CB, 0, none⟩)] 71 (0, 0))) :
    Gives m 32 #[.pointer (some ⟨Bx, 0, none⟩)] (fun x : Nat × Nat => #[.int .i64 x.1, .int .i64 x.2]) (fun pre x => x.1 < x.2 ∧ x.2 < n ∧ S x.1 ≠ 0 ∧ S x.2 ≠ 0)
      (fun xs => ∀ a b, a < b → b < n → S a ≠ 0 → S b ≠ 0 → (a, b) ∈ xs) (KeepG gs) w := by
  intro l J W hO _ hY h0
  have HC := Lib.hid (fun W' (hK : KeepG gs W W') => (⟨((hC.only hO (by simp) (by simp)).keepG hK h1 h2).c0, fun i hi => ((hC.only hO (by simp) (by simp)).keepG hK h1 h2).cS hi, cell_of_heap (i := 0) (hK _ _ _ _ hB ((hO.block _ (heap_lt hb) (by simp)).trans hb)) rfl⟩ :
    W'.cell? ⟨CB, 0, none⟩ = some (.int .i64 n) ∧ (∀ i, i < 128 → W'.cell? ⟨CB, 3 + i, none⟩ = some (.int .i64 (S i : Nat))) ∧ W'.cell? ⟨Bx, 0, none⟩ = some (.pointer (some ⟨CB, 0, none⟩))))
  have HY := Lib.hid hY
  have HS := Lib.hid hS
  have l2 : 1 ≤ m := by omega
  have l3 : 1 ≤ m - 1 := by omega
  obtain ⟨f0, _, f1⟩ := HC.out W (KeepG.refl _ _)
  clear hC hb hO hY h1 h2 hB hS
  refine callsIn_of_wp Tryd.func32 rfl trivial ?_ rfl
  simp only [Tryd.ntmps32, List.size_toArray, List.length_cons, List.length_nil, Nat.reduceAdd, Nat.reduceSub, Array.replicate_succ, Array.replicate_zero, List.push_toArray, List.append_toArray, List.nil_append, List.cons_append]
  gi_wp2
  clear f0 f1
  gi_loopw [9] (fun y wr => ∃ (a : Nat) (pre : List (Nat × Nat)), a ≤ n ∧ y = .int .i64 a ∧ Hid (∀ c d, c < a → c < d → d < n → S c ≠ 0 → S d ≠ 0 → (c, d) ∈ pre) ∧ Hid (J pre wr) ∧ Hid (KeepG gs W wr)) (fun y _ => n - (intOf y).toNat)
  case atStart => exact ⟨0, [], Nat.zero_le _, rfl, Lib.hid (fun c d hc => absurd hc (Nat.not_lt_zero c)), Lib.hid h0, Lib.hid (KeepG.refl _ _)⟩
  case round =>
    obtain ⟨a, pre, ha, rfl, HP, HJ, HK⟩ := hrel
    obtain ⟨f0, fS, f1⟩ := HC.out wr HK.out
    by_cases hlt : a < n
    · have fa := fS a (by omega)
      have qa : (a : Int) < 128 := by omega
      have qi : ((a : Int)).toNat = a := by omega
      have hSa := HS.out a
      obtain ⟨sa, hsa⟩ : ∃ sa, S a = sa := ⟨_, rfl⟩
      rw [hsa] at fa hSa
      have Hsa := Lib.hid hsa
      clear fS hsa
      by_cases hz : sa = 0
      · subst hz
        gi_wp2
        exact ⟨⟨a + 1, pre, by omega, by go_num, Lib.hid (fun c d hc hcd hd h3 h4 => by
          by_cases e : c = a
          · rw [e, Hsa.out] at h3; exact absurd rfl h3
          · exact HP.out c d (by omega) hcd hd h3 h4), HJ, HK⟩, by simp [intOf]; omega⟩
      · have q1 : ((sa : Int) == 0) = false := by simp; omega
        have q2 : ¬ (sa : Int) = 0 := by omega
        gi_wp2
        clear f0 f1 fa
        gi_loopw [4] (fun y wr => ∃ (b : Nat) (pre : List (Nat × Nat)), a + 1 ≤ b ∧ b ≤ n ∧ y = .int .i64 b ∧ Hid (∀ c d, c < a → c < d → d < n → S c ≠ 0 → S d ≠ 0 → (c, d) ∈ pre) ∧ Hid (∀ d, a < d → d < b → S d ≠ 0 → (a, d) ∈ pre) ∧ Hid (J pre wr) ∧ Hid (KeepG gs W wr)) (fun y _ => n - (intOf y).toNat)
        case atStart => exact ⟨a + 1, pre, by omega, by omega, by go_num, HP, Lib.hid (fun d h1 h2 => by omega), HJ, HK⟩
        case round =>
          clear HP HJ HK
          obtain ⟨b, pre, hab, hbn, rfl, HP, HQ, HJ, HK⟩ := hrel
          obtain ⟨f0, fS, f1⟩ := HC.out wr HK.out
          by_cases hlb : b < n
          · have fb := fS b (by omega)
            have qb : (b : Int) < 128 := by omega
            have qj : ((b : Int)).toNat = b := by omega
            have hSb := HS.out b
            obtain ⟨sb, hsb⟩ : ∃ sb, S b = sb := ⟨_, rfl⟩
            rw [hsb] at fb hSb
            have Hsb := Lib.hid hsb
            clear fS hsb
            by_cases hzb : sb = 0
            · have q3 : ¬ (0 : Int) < (sb : Int) := by omega
              have q4 : decide ((0 : Int) < (sb : Int)) = false := decide_eq_false q3
              gi_wp2
              refine ⟨fun f hf => (by cases hf), ?_⟩
              gi_wp2
              exact ⟨⟨b + 1, pre, by omega, by omega, by go_num, HP, Lib.hid (fun d h1 h2 h3 => by
                by_cases e : d = b
                · rw [e, Hsb.out] at h3; exact absurd hzb h3
                · exact HQ.out d h1 (by omega) h3), HJ, HK⟩, by simp [intOf]; omega⟩
            · have q3 : (0 : Int) < (sb : Int) := by omega
              obtain ⟨fn, tmps, assign, body, hy, hR⟩ := HY.out _ (a, b) wr HJ.out ⟨by omega, hlb, by rw [Hsa.out]; exact hz, by rw [Hsb.out]; exact hzb⟩
              have HR := Lib.hid hR
              clear hR
              gi_wp2
              refine HR.out.mono ?_
              rintro e W3 ⟨rfl, hJ3, hk3⟩
              have HJ3 := Lib.hid (And.intro hJ3 hk3)
              clear hJ3 hk3 f0 f1 fb hy
              gi_wp2
              go_roundw
              case rel => exact ⟨b + 1, pre ++ [(a, b)], by omega, by omega, by go_num, Lib.hid (fun c d hc hcd hd h3 h4 => List.mem_append_left _ (HP.out c d hc hcd hd h3 h4)), Lib.hid (fun d h1 h2 h3 => by
                by_cases e : d = b
                · rw [e]; exact List.mem_append_right _ (List.mem_singleton.2 rfl)
                · exact List.mem_append_left _ (HQ.out d h1 (by omega) h3)), Lib.hid HJ3.out.1, Lib.hid (HK.out.trans HJ3.out.2)⟩
              case measure => simp [intOf]; omega
          · obtain rfl : b = n := by omega
            gi_wp2
            exact ⟨⟨a + 1, pre, by omega, by go_num, Lib.hid (fun c d hc hcd hd h3 h4 => by
              by_cases e : c = a
              · rw [e] at hcd ⊢; exact HQ.out d hcd hd h4
              · exact HP.out c d (by omega) hcd hd h3 h4), HJ, HK⟩, by simp [intOf]; omega⟩
    · obtain rfl : a = n := by omega
      gi_wp2
      go_end0
      exact ⟨⟨_, rfl⟩, pre, fun c d hcd hd h3 h4 => HP.out c d (by omega) hcd hd h3 h4, HJ.out⟩

end Go.Proofs.YtipgbbhgmoehfaaDoor
