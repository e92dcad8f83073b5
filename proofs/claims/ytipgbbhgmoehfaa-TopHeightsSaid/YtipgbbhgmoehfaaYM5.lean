import Derived.Test.YtipgbbhgmoehfaaYM4
import Derived.Test.YtipgbbhgmoehfaaYK3
/-
  graph.Under: the graph of the edges up to a threshold.
-/
namespace Go.Proofs.Ytipgbbhgmoehfaa
open Go.RowKit
attribute [local go_sem] Oper.semAt_some
set_option linter.unusedSimpArgs false
set_option linter.unusedSectionVars false

set_option maxRecDepth 100000 in
set_option maxHeartbeats 4000000 in
theorem Under_any {W : World} {G n m : Nat} {u v x : Nat → Int} {p q : Nat → Nat} (th : Int) (h : GAt W G n m u v x) (hn : n ≤ 4096) (hm : m ≤ 16384) (hpq : ∀ j, j < m → u j = p j ∧ v j = q j ∧ p j < n ∧ q j < n) : Calls Try.prog 11 #[.pointer (some ⟨G, 0, none⟩), .int .i64 th] W fun e w' =>
    ∃ G', e = .returned (.pointer (some ⟨G', 0, none⟩)) ∧ GAt w' G' n (leL m x th).length (fun j => u (sel (leL m x th) j)) (fun j => v (sel (leL m x th) j)) (fun j => x (sel (leL m x th) j)) ∧ Only [] W w' := by
  obtain ⟨i1, gi, gz0, gz1, gz2⟩ := info_parts infoEdge
  have CV := Lib.hid (gvalid_any h)
  have HGt := Lib.hid h
  obtain ⟨S0, L0, A, c, hh, hE⟩ := h
  have HE := Lib.hid hE
  have c1 := cell_of_heap (i := 1) hh rfl
  replace c1 : W.cell? ⟨G, 1, none⟩ = some (.slice A m c) := c1
  have Hpq := Lib.hid hpq
  clear hh hE hpq
  go_enter Try.func11, Try.ntmps11
  go_wp2_with fail
  refine CV.out.mono ?_
  rintro e w' ⟨rfl, rfl⟩
  go_wp2_with fail
  clear c1
  go_loopw [5, 16] (fun vs i wr => ∃ j : Nat, j ≤ m ∧ i = .int .i64 j ∧ Hid (wr.ownsRow W.heap.size 43 3 vs (leL j x th).length (edgesOf u v x (leL j x th))) ∧ Hid (Below W.heap.size W wr)) (fun _ i _ => m - (intOf i).toNat)
  case atStart => exact ⟨0, Nat.zero_le _, rfl, Lib.hid (World.ownsRow_nil _ _ _ _), Lib.hid (Below.refl _ _)⟩
  case round =>
    obtain ⟨j, hj, rfl, HR, HB⟩ := hrel
    by_cases hlt : j < m
    · have hb := HB.out
      have hsz := hb.size
      obtain ⟨b, off, rfl, hbl, e0, e1, e2⟩ := (HE.out.only (only_of_below' hb)).cell hlt
      obtain ⟨ya, hya⟩ : ∃ ya, u j = ya := ⟨_, rfl⟩
      obtain ⟨yb, hyb⟩ : ∃ yb, v j = yb := ⟨_, rfl⟩
      obtain ⟨yc, hyc⟩ : ∃ yc, x j = yc := ⟨_, rfl⟩
      rw [hya] at e0
      rw [hyb] at e1
      rw [hyc] at e2
      have HQ := Lib.hid (And.intro hya (And.intro hyb hyc))
      have hlen := leL_len j x th
      obtain ⟨lq, hlq⟩ : ∃ lq, (leL j x th).length = lq := ⟨_, rfl⟩
      rw [hlq] at hlen
      have HLq := Lib.hid hlq
      clear hya hyb hyc hlq
      go_upto_region 7 with (fail)
      have k0 : (wr.alloc (.cells #[.int .i64 ya, .int .i64 yb, .int .i64 yc] 43)).heap[wr.heap.size]? = some (.cells #[.int .i64 ya, .int .i64 yb, .int .i64 yc] 43 (0, 0)) := heap_alloc_new wr _
      have hrow := HR.out.alloc (.cells #[.int .i64 ya, .int .i64 yb, .int .i64 yc] 43)
      have hb1 := hb.alloc hsz (.cells #[.int .i64 ya, .int .i64 yb, .int .i64 yc] 43)
      obtain ⟨W1, hW1⟩ : ∃ W1, wr.alloc (.cells #[.int .i64 ya, .int .i64 yb, .int .i64 yc] 43) = W1 := ⟨_, rfl⟩
      obtain ⟨B, hB⟩ : ∃ B, wr.heap.size = B := ⟨_, rfl⟩
      rw [hW1, hB] at k0
      rw [hW1] at hrow hb1
      rw [hW1, hB]
      have f0 := cell_of_heap (i := 0) k0 rfl
      have f1 := cell_of_heap (i := 1) k0 rfl
      have f2 := cell_of_heap (i := 2) k0 rfl
      have hsz1 := hb1.size
      rw [HLq.out] at hrow
      clear k0 hW1 hB e0 e1 e2 hb HR HB
      by_cases hle : yc ≤ th
      · have HL := Lib.hid (show leL (j + 1) x th = leL j x th ++ [j] by rw [leL_succ, HQ.out.2.2, if_pos hle])
        go_wp2_with (at_builtin; refine wpList_append_own _ rfl _ _ 23 rfl W.heap.size 43 i1 (.agg #[.int .i64 0, .int .i64 0, .int .i64 0]) 3 24 Try.underlying23 gi gz0 gz1 gz2 rfl (by decide) _ _ _ rfl (hrow.alloc _) ⟨W1.heap.size, 0, none⟩ 1 1 [.int .i64 ya, .int .i64 yb, .int .i64 yc] rfl rfl (cell_three_new _ _ _ _ _) (by simp [Value.oneCell']) (by unfold maxLen; omega) (by omega) (by simp; omega) ?_; intro v' w1' hown' hgrow _; have HN := Lib.hid (And.intro (show w1'.ownsRow W.heap.size 43 3 v' (leL (j + 1) x th).length (edgesOf u v x (leL (j + 1) x th)) by rw [HL.out, List.length_append, edgesOf_append, HLq.out]; show w1'.ownsRow _ _ _ _ (lq + 1) (edgesOf u v x (leL j x th) ++ [.int .i64 (u j), .int .i64 (v j), .int .i64 (x j)]); rw [HQ.out.1, HQ.out.2.1, HQ.out.2.2]; exact hown') (below_append hb1 hrow hgrow)); clear hown' hgrow hrow hb1)
        exact ⟨⟨j + 1, by omega, by go_num, Lib.hid HN.out.1, Lib.hid HN.out.2⟩, by simp [intOf]; omega⟩
      · have HN := Lib.hid (And.intro (show W1.ownsRow W.heap.size 43 3 _ (leL (j + 1) x th).length (edgesOf u v x (leL (j + 1) x th)) by rw [leL_succ, HQ.out.2.2, if_neg hle, List.append_nil, HLq.out]; exact hrow) hb1)
        clear hrow hb1
        go_wp2_with fail
        exact ⟨⟨j + 1, by omega, by go_num, Lib.hid HN.out.1, Lib.hid HN.out.2⟩, by simp [intOf]; omega⟩
    · obtain rfl : j = m := by omega
      have hso := HR.out
      rw [← edgesL_sel] at hso
      obtain ⟨As, cs, rfl, hEs⟩ := edges_own hso (fun i hi => HE.out.wf _ (leL_mem (sel_at hi)))
      have hO := only_of_below' HB.out
      have CN := Lib.hid (gN_any (HGt.out.only hO) (by omega))
      have hll := leL_len j x th
      have CB := Lib.hid (build_any As n (leL j x th).length cs _ _ _ (fun i => p (sel (leL j x th) i)) (fun i => q (sel (leL j x th) i)) (fun i hi => Hpq.out _ (leL_mem (sel_at hi))) wr hEs hn (by omega))
      have HEs := Lib.hid hEs
      have HO := Lib.hid hO
      clear hso hEs hO HR HB hlt hj
      go_wp2_with fail
      refine CN.out.mono ?_
      rintro e w' ⟨rfl, rfl⟩
      go_wp2_with fail
      refine CB.out.mono ?_
      rintro e w2 ⟨G', S, L, rfl, fs, hBl⟩
      have HBl := Lib.hid hBl
      clear hBl CN CB
      go_wp2_with fail
      go_ret
      exact ⟨_, rfl, ⟨S, L, As, cs, HBl.out.head, HEs.out.only HBl.out.only⟩, HO.out.trans HBl.out.only⟩

end Go.Proofs.Ytipgbbhgmoehfaa
