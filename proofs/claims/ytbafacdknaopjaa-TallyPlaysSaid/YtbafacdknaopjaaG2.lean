import Derived.Test.YtbafacdknaopjaaG1
import Derived.Laws.AppendOwnNone
import Derived.WalkSpells
/-
  The document's tally of chapter 10: Pairs.
-/
namespace Go.Proofs.Ytbafacdknaopjaa
open Go.RowKit
set_option linter.unusedSimpArgs false
set_option linter.unusedSectionVars false

theorem add1_new {L : Items} (h : Sorted L) {v : Int} {k : Nat} (hp : ∀ p ∈ L.take k, p.1 < v) (hd : ∀ p, L[k]? = some p → v < p.1) : add1 L v = L.take k ++ ((v, 1) :: L.drop k) := by
  have e : L = L.take k ++ L.drop k := (List.take_append_drop _ _).symm
  have hs := h
  rw [e] at hs
  have hs2 := (List.pairwise_append.1 hs).2.1
  have hgt : ∀ p ∈ L.drop k, v < p.1 := by
    intro p hm
    cases hdr : L.drop k with
    | nil => rw [hdr] at hm; simp at hm
    | cons q b =>
      have hq : L[k]? = some q := by
        have : (L.drop k)[0]? = some q := by rw [hdr]; rfl
        rwa [List.getElem?_drop, Nat.add_zero] at this
      rw [hdr] at hm hs2
      rcases List.mem_cons.1 hm with rfl | hm
      · exact hd _ hq
      · have := (List.pairwise_cons.1 hs2).1 p hm
        have := hd _ hq
        omega
  have hc : lcnt v L = 0 := by
    rw [e, lcnt_right fun p hm => by have := hp p hm; omega]
    exact lcnt_none fun p hm => by have := hgt p hm; omega
  unfold add1
  rw [hc]
  have e2 : lput v (0 + 1) L = lput v (0 + 1) (L.take k ++ L.drop k) := by rw [List.take_append_drop]
  rw [e2, lput_right hp]
  congr 1
  cases hdr : L.drop k with
  | nil => simp [lput]
  | cons q b =>
    have hq := hgt q (by rw [hdr]; exact List.mem_cons_self)
    simp only [lput]
    rw [if_neg (by omega), if_neg (by omega), if_neg (by omega)]
theorem add1_old {L : Items} {v : Int} {k u : Nat} (hp : ∀ p ∈ L.take k, p.1 < v) (hd : L[k]? = some (v, u)) : add1 L v = L.take k ++ ((v, 1 + u) :: L.drop (k + 1)) := by
  have e : L = L.take k ++ L.drop k := (List.take_append_drop _ _).symm
  obtain ⟨hk, hk2⟩ := List.getElem?_eq_some_iff.1 hd
  have hdr : L.drop k = (v, u) :: L.drop (k + 1) := by rw [List.drop_eq_getElem_cons hk, hk2]
  have hc : lcnt v L = u := by
    rw [e, lcnt_right fun p hm => by have := hp p hm; omega, hdr]
    simp [lcnt]
  unfold add1
  rw [hc]
  have e2 : lput v (u + 1) L = lput v (u + 1) (L.take k ++ L.drop k) := by rw [List.take_append_drop]
  rw [e2, lput_right hp, hdr]
  congr 1
  simp only [lput]
  rw [if_neg (by omega), if_pos trivial, if_neg (by omega), Nat.add_comm]

/-- A list of pairs that is being put together, in blocks of its own. -/
def ListedP (w : World) (L : Items) (v : Value) (W : World) : Prop := W.ownsRow w.heap.size 48 2 v L.length (cellsIt L) ∧ Below w.heap.size w W
theorem ListedP.nil (w : World) : ListedP w [] (.slice none 0 0) w := ⟨World.ownsRow_nil _ _ _ _, Below.refl _ _⟩
theorem ListedP.grow {w W W' : World} {L M : Items} {v v' : Value} {X : World} (h : ListedP w L v W) (hX : X = W ∨ ∃ o, X = W.alloc o) (h1 : W'.ownsRow w.heap.size 48 2 v' (L.length + M.length) (cellsIt L ++ cellsIt M)) (hg : X.grownBy W' v.ownBlock) : ListedP w (L ++ M) v' W' := by
  obtain ⟨h1', h2⟩ := h
  have hb : Below w.heap.size w X := by
    rcases hX with rfl | ⟨o, rfl⟩
    · exact h2
    · exact h2.alloc h2.size o
  refine ⟨by rw [List.length_append, cellsIt_append]; exact h1, hb.grown hg hb.size fun j hj => ?_⟩
  obtain ⟨_, ⟨rfl, _⟩ | ⟨g, cap, cur, rfl, hgb, _⟩⟩ := h1'
  · simp [Value.ownBlock] at hj
  · simp [Value.ownBlock] at hj; omega
theorem ListedP.below {w W W' : World} {L : Items} {v : Value} (h : ListedP w L v W) (hb : Below W.heap.size W W') : ListedP w L v W' := by
  obtain ⟨⟨hl, hv⟩, h2⟩ := h
  refine ⟨⟨hl, ?_⟩, h2.trans (hb.mono h2.size)⟩
  rcases hv with hv | ⟨g, cap, cur, e, hg, hh, hr⟩
  · exact .inl hv
  · exact .inr ⟨g, cap, cur, e, hg, (hb.block g (heap_lt hh)).trans hh, hr⟩
theorem ListedP.drewN {w W : World} {L : Items} {v : Value} (h : ListedP w L v W) (n : Nat) : ListedP w L v (W.drewN n) := ⟨h.1, ⟨h.2.os, h.2.tape, h.2.output, h.2.size, h.2.block⟩⟩
theorem cellsIt_len (L : Items) : (cellsIt L).length = L.length * 2 := by
  induction L with
  | nil => rfl
  | cons p L ih => simp only [cellsIt, List.length_cons, ih]; omega
/-- What lies in the row. -/
theorem ListedP.row {w W : World} {L : Items} {v : Value} (h : ListedP w L v W) : (L = [] ∧ v = .slice none 0 0) ∨ ∃ g c, v = .slice (some ⟨g, 0, none⟩) L.length c ∧ L.length ≤ c ∧ ∀ j p, L[j]? = some p → W.cell? ⟨g, j * 2, none⟩ = some (.int .i64 p.1) ∧ W.cell? ⟨g, j * 2 + 1, none⟩ = some (.int .i64 p.2) := by
  obtain ⟨hl, ⟨rfl, h0⟩ | ⟨g, cap, cur, rfl, hg, hh, hn, hc, hs, ht⟩⟩ := id h.1
  · exact .inl ⟨List.length_eq_zero_iff.1 h0, rfl⟩
  · refine .inr ⟨g, cap, rfl, hn, fun j p hp => ?_⟩
    have hr := Reads.of_row h.1
    obtain ⟨g', e, c0, c1⟩ := hr.cells hp
    cases e
    exact ⟨c0, c1⟩
theorem cells_tail {W : World} {L : Items} {g k : Nat} (h : ∀ j p, L[j]? = some p → W.cell? ⟨g, j * 2, none⟩ = some (.int .i64 p.1) ∧ W.cell? ⟨g, j * 2 + 1, none⟩ = some (.int .i64 (p.2 : Int))) : ∀ j u, (cellsIt (L.drop k))[j]? = some u → W.cell? ((⟨g, k * 2, none⟩ : Addr).add j) = some u := by
  intro j u hu
  have hj := (List.getElem?_eq_some_iff.1 hu).1
  rw [cellsIt_len] at hj
  have hi : j / 2 < (L.drop k).length := by omega
  obtain ⟨p, hp⟩ : ∃ p, (L.drop k)[j / 2]? = some p := ⟨_, List.getElem?_eq_getElem hi⟩
  have hp2 : L[k + j / 2]? = some p := by rw [← List.getElem?_drop]; exact hp
  obtain ⟨c0, c1⟩ := h _ _ hp2
  obtain ⟨d0, d1⟩ := cellsIt_get _ _ _ hp
  have e : ((⟨g, k * 2, none⟩ : Addr).add j) = ⟨g, k * 2 + j, none⟩ := by unfold Addr.add; split <;> simp_all
  rw [e]
  rcases Nat.mod_two_eq_zero_or_one j with hm | hm
  · have e1 : j / 2 * 2 = j := by omega
    rw [e1] at d0
    rw [d0] at hu
    cases hu
    have e2 : (k + j / 2) * 2 = k * 2 + j := by omega
    rw [e2] at c0
    exact c0
  · have e1 : j / 2 * 2 + 1 = j := by omega
    rw [e1] at d1
    rw [d1] at hu
    cases hu
    have e2 : (k + j / 2) * 2 + 1 = k * 2 + j := by omega
    rw [e2] at c1
    exact c1
theorem cellsIt_one (L : Items) : ∀ u ∈ cellsIt L, u.oneCell' = true := by
  induction L with
  | nil => intro u hu; simp [cellsIt] at hu
  | cons p L ih =>
    intro u hu
    simp only [cellsIt, List.mem_cons] at hu
    rcases hu with rfl | rfl | hu
    · rfl
    · rfl
    · exact ih u hu
end Go.Proofs.Ytbafacdknaopjaa

/-
  The document's tally of chapter 10: the walk of Pairs.
-/
namespace Go.Proofs.Ytbafacdknaopjaa
open Go.RowKit
set_option linter.unusedSimpArgs false
set_option linter.unusedSectionVars false

theorem ListedP.up {w wo W : World} {M : Items} {v : Value} (h : ListedP wo M v W) (hb : Below w.heap.size w wo) : ListedP w M v W := by
  obtain ⟨⟨hl, hv⟩, h2⟩ := h
  refine ⟨⟨hl, ?_⟩, hb.trans (h2.mono hb.size)⟩
  rcases hv with hv | ⟨g, cap, cur, e, hg, hr⟩
  · exact .inl hv
  · exact .inr ⟨g, cap, cur, e, Nat.le_trans hb.size hg, hr⟩
theorem bagOf_take (l : List Int) (k : Nat) (x : Int) (h : l[k]? = some x) : bagOf (l.take (k + 1)) = add1 (bagOf (l.take k)) x := by
  rw [List.take_add_one, h]
  exact bagOf_snoc _ _
theorem take_lt_succ {L : Items} {j : Nat} {p : Int × Nat} {x : Int} (h : ∀ q ∈ L.take j, q.1 < x) (hp : L[j]? = some p) (hx : p.1 < x) : ∀ q ∈ L.take (j + 1), q.1 < x := by
  intro q hq
  rw [List.take_add_one, hp] at hq
  rcases List.mem_append.1 hq with hq | hq
  · exact h q hq
  · simp at hq; rw [hq]; exact hx
theorem ListedP.cellsAt {w W : World} {L : Items} {g m c : Nat} (h : ListedP w L (.slice (some ⟨g, 0, none⟩) m c) W) : ∀ j p, L[j]? = some p → W.cell? ⟨g, j * 2, none⟩ = some (.int .i64 p.1) ∧ W.cell? ⟨g, j * 2 + 1, none⟩ = some (.int .i64 (p.2 : Int)) := by
  rcases h.row with ⟨_, e⟩ | ⟨g', c', e, _, hc⟩
  · cases e
  · cases e; exact hc
theorem cnt_le_sz {L : Items} {p : Int × Nat} (h : p ∈ L) : p.2 ≤ T.szL L := cnt_le_szL h

section
variable {W : World} {F : List Nat} {R : Nat} {v1 v2 : Value} {n : Nat} {lab wt : Nat → Nat} (h : Ref W F R v1 v2 n lab wt)
include h
set_option maxRecDepth 100000 in
set_option maxHeartbeats 8000000 in
theorem RPairs : Calls Try.prog 83 #[.pointer (some ⟨R, 0, none⟩)] W fun e w' => (∃ v, e = .returned v ∧ Reads w' v (bagOf (setsL n lab wt))) ∧ Only [] W w' := by
  obtain ⟨i0, hi, hz0, hz1, hz2⟩ := info_parts infoPair
  have CS := Lib.hid (RSets h)
  have HB := Lib.hid (sets_bound h)
  have hlen : (setsL n lab wt).length ≤ 65536 := by rw [setsL_len]; exact Nat.le_trans (many_le _ _) h.bound
  obtain ⟨l, hl⟩ : ∃ l, setsL n lab wt = l := ⟨_, rfl⟩
  rw [hl] at CS HB hlen ⊢
  clear h hl
  go_enter Try.func83, Try.ntmps83
  go_wp2_with fail
  refine CS.out.mono ?_
  rintro e w1 ⟨A, c, rfl, HP⟩
  go_wp2_with fail
  go_loopw [4, 5] (fun v i wr => ∃ k : Nat, k ≤ l.length ∧ i = .int .i64 k ∧ Hid (ListedP w1 (bagOf (l.take k)) v wr)) (fun _ i _ => l.length - (intOf i).toNat)
  case atStart => exact ⟨0, Nat.zero_le _, rfl, Lib.hid (ListedP.nil w1)⟩
  case round =>
    obtain ⟨k, hk, rfl, HL⟩ := hrel
    by_cases hlt : k < l.length
    · obtain ⟨x, hx⟩ : ∃ x, l[k]? = some x := ⟨_, List.getElem?_eq_getElem hlt⟩
      obtain ⟨x0, x1⟩ := HB.out x (by obtain ⟨hh, e⟩ := List.getElem?_eq_some_iff.1 hx; rw [← e]; exact List.getElem_mem hh)
      obtain ⟨wo, rfl⟩ : ∃ wo : World, wo = wr := ⟨_, rfl⟩
      obtain ⟨b, off, rfl, hc⟩ := (HP.out.1.only (only_of_below' HL.out.2)).cell hlt
      rw [hx] at hc
      replace hc : wo.cell? ⟨b, off + k, none⟩ = some (.int .i64 x) := hc
      have HC := Lib.hid hc
      have HN := Lib.hid (bagOf_take l k x hx)
      have HSP := Lib.hid (And.intro (bagOf_sorted (l.take k)) (bagOf_pos (l.take k)))
      have hsz : T.szL (bagOf (l.take k)) ≤ 65536 := by rw [bagOf_sz, List.length_take]; omega
      have hLl : (bagOf (l.take k)).length ≤ 65536 := Nat.le_trans (bagOf_len_le _) (by rw [List.length_take]; omega)
      obtain ⟨L, hL⟩ : ∃ L, bagOf (l.take k) = L := ⟨_, rfl⟩
      rw [hL] at HL HN HSP hsz hLl
      clear hL hx hc
      go_wp2_with fail
      go_loopw [6, 7] (fun v2 i wr => ∃ j : Nat, j ≤ L.length ∧ i = .int .i64 j ∧ Hid (∀ p ∈ L.take j, p.1 < x) ∧ Hid (ListedP wo (L.take j) v2 wr)) (fun _ i _ => L.length - (intOf i).toNat)
      case atStart => exact ⟨0, Nat.zero_le _, rfl, Lib.hid (fun p hp => by simp at hp), Lib.hid (ListedP.nil wo)⟩
      case round =>
        obtain ⟨j, hj, rfl, hlo, hN⟩ := hrel
        have hc := cells_keep (only_of_below' hN.out.2) HC.out (by simp)
        have HO := Lib.hid (HL.out.below hN.out.2)
        have hsz2 := hN.out.2.size
        by_cases hjl : j < L.length
        · obtain ⟨⟨y, u⟩, hp⟩ : ∃ p, L[j]? = some p := ⟨_, List.getElem?_eq_getElem hjl⟩
          have hmem : (y, u) ∈ L := by obtain ⟨hh, e⟩ := List.getElem?_eq_some_iff.1 hp; rw [← e]; exact List.getElem_mem hh
          have hu := cnt_le_sz hmem
          rcases HO.out.row with ⟨e, _⟩ | ⟨g, c4, rfl, hc4, hcell⟩
          · rw [e] at hjl; simp at hjl
          obtain ⟨d0, d1⟩ := hcell j _ hp
          simp only at d0 d1 hu
          have HCell := Lib.hid hcell
          clear hcell hmem
          by_cases hyx : y < x
          · have HLO := Lib.hid (take_lt_succ hlo.out hp hyx)
            have HTK := Lib.hid (show L.take (j + 1) = L.take j ++ [(y, u)] by rw [List.take_add_one, hp]; rfl)
            have hlen2 : (L.take j).length = j := by rw [List.length_take]; omega
            go_wp2_with fail
            go_quiet (fail)
            obtain ⟨w5, hw5⟩ : ∃ w5, wr.drewN nq = w5 := ⟨_, rfl⟩
            have hN5 := Lib.hid (hN.out.drewN nq)
            replace d0 : (wr.drewN nq).cell? ⟨g, j * 2, none⟩ = some (.int .i64 y) := d0
            replace d1 : (wr.drewN nq).cell? ⟨g, j * 2 + 1, none⟩ = some (.int .i64 (u : Int)) := d1
            replace hsz2 : wo.heap.size ≤ (wr.drewN nq).heap.size := hsz2
            rw [hw5] at hN5 d0 d1 hsz2 ⊢
            have hown := hN5.out.1
            rw [hlen2] at hown
            clear hc hp hyx HO hN hw5
            go_wp2_with (at_builtin; refine wpList_append_own _ rfl (.tmp 33) (.tmp 38) 45 rfl wo.heap.size 48 i0 (.agg #[.int .i64 0, .int .i64 0]) 2 16 Try.underlying45 hi hz0 hz1 hz2 rfl (by decide) _ _ _ rfl (hown.alloc _) ⟨w5.heap.size, 0, none⟩ 1 1 [.int .i64 y, .int .i64 u] rfl rfl (cell_two_new _ _ _ _) (by simp [Value.oneCell']) (by unfold maxLen; omega) (by omega) (by simp; omega) ?_; intro v6 w6 hown6 hgrow6 _; have HN6 := Lib.hid (hN5.out.grow (M := [(y, u)]) (.inr ⟨_, rfl⟩) (by rw [hlen2]; exact hown6) hgrow6); clear hown6 hgrow6 hown)
            go_roundw
            case rel => exact ⟨j + 1, by omega, by go_num, HLO, Lib.hid (by rw [HTK.out]; exact HN6.out)⟩
            case measure => simp [intOf]; omega
          · by_cases he : y = x
            · obtain rfl : x = y := he.symm
              have HADD := Lib.hid (show bagOf (l.take (k + 1)) = L.take j ++ ((x, 1 + u) :: L.drop (j + 1)) from by rw [HN.out]; exact add1_old hlo.out hp)
              have hlen2 : (L.take j).length = j := by rw [List.length_take]; omega
              have ecast := Lib.hid (show (Value.int .i64 (1 + (u : Int))) = .int .i64 ((1 + u : Nat) : Int) by rw [Int.natCast_add]; rfl)
              clear HO hp hyx he
              by_cases hcap : j + 1 < c4
              · go_wp2_with fail
                go_quiet (fail)
                have hN3 := Lib.hid (hN.out.drewN nq)
                obtain ⟨w3, hw_w3⟩ : ∃ w3, wr.drewN nq = w3 := ⟨_, rfl⟩
                replace hc : (wr.drewN nq).cell? ⟨b, off + k, none⟩ = some (.int .i64 x) := hc
                replace d0 : (wr.drewN nq).cell? ⟨g, j * 2, none⟩ = some (.int .i64 x) := d0
                replace d1 : (wr.drewN nq).cell? ⟨g, j * 2 + 1, none⟩ = some (.int .i64 (u : Int)) := d1
                replace hsz2 : wo.heap.size ≤ (wr.drewN nq).heap.size := hsz2
                rw [hw_w3] at hc d0 d1 hsz2 hN3 ⊢
                clear hw_w3
                go_wp2_with fail
                go_quiet (fail)
                have hN4 := Lib.hid (hN3.out.drewN nq)
                obtain ⟨w4, hw_w4⟩ : ∃ w4, w3.drewN nq = w4 := ⟨_, rfl⟩
                replace hc : (w3.drewN nq).cell? ⟨b, off + k, none⟩ = some (.int .i64 x) := hc
                replace d0 : (w3.drewN nq).cell? ⟨g, j * 2, none⟩ = some (.int .i64 x) := d0
                replace d1 : (w3.drewN nq).cell? ⟨g, j * 2 + 1, none⟩ = some (.int .i64 (u : Int)) := d1
                replace hsz2 : wo.heap.size ≤ (w3.drewN nq).heap.size := hsz2
                rw [hw_w4] at hc d0 d1 hsz2 hN4 ⊢
                clear hw_w4
                have hown := hN4.out.1
                rw [hlen2] at hown
                have hlen6 : (L.take j ++ [(x, 1 + u)]).length = j + 1 := by rw [List.length_append, hlen2]; rfl
                go_wp2_with (first | (at_builtin; refine wpList_append_own _ rfl (.tmp 67) (.tmp 74) 45 rfl wo.heap.size 48 i0 (.agg #[.int .i64 0, .int .i64 0]) 2 16 Try.underlying45 hi hz0 hz1 hz2 rfl (by decide) _ _ _ rfl (hown.alloc _) ⟨w4.heap.size, 0, none⟩ 1 1 [.int .i64 x, .int .i64 (1 + (u : Int))] rfl rfl (cell_two_new _ _ _ _) (by simp [Value.oneCell']) (by unfold maxLen; omega) (by omega) (by simp; omega) ?_; intro v6 w6 hown6 hgrow6 _; rw [ecast.out] at hown6; have HN6 := Lib.hid (hN4.out.grow (M := [(x, 1 + u)]) (.inr ⟨_, rfl⟩) (by rw [hlen2]; exact hown6) hgrow6); clear hown6 hgrow6 hown; have hown := HN6.out.1; rw [hlen6] at hown; have hsz6 := HN6.out.2.size; obtain hcell6 := (HL.out.below HN6.out.2).cellsAt) | (at_builtin; refine wpList_append_own _ rfl (.tmp 76) (.tmp 79) 45 rfl wo.heap.size 48 i0 (.agg #[.int .i64 0, .int .i64 0]) 2 16 Try.underlying45 hi hz0 hz1 hz2 rfl (by decide) _ _ _ rfl hown ⟨g, (j + 1) * 2, none⟩ (L.length - (j + 1)) (c4 - (j + 1)) (cellsIt (L.drop (j + 1))) rfl (by rw [cellsIt_len, List.length_drop]) (cells_tail hcell6) (cellsIt_one _) (by unfold maxLen; omega) (by omega) (by omega) ?_; intro v7 w7 hown7 hgrow7 _; have HN7 := Lib.hid (show ListedP w1 (L.take j ++ ((x, 1 + u) :: L.drop (j + 1))) v7 w7 from ListedP.up (by have := HN6.out.grow (M := L.drop (j + 1)) (.inl rfl) (by rw [hlen6, List.length_drop]; exact hown7) hgrow7; rw [List.append_assoc] at this; exact this) HL.out.2); clear hown7 hgrow7))
                go_roundw
                case rel => exact ⟨k + 1, by omega, by go_num, Lib.hid (by rw [HADD.out]; exact HN7.out)⟩
                case measure => simp [intOf]; omega
              · obtain rfl : c4 = j + 1 := by omega
                have HDR := Lib.hid (show L.drop (j + 1) = [] from List.drop_of_length_le (by omega))
                clear hcap
                go_wp2_with fail
                go_quiet (fail)
                have hN3 := Lib.hid (hN.out.drewN nq)
                obtain ⟨w3, hw_w3⟩ : ∃ w3, wr.drewN nq = w3 := ⟨_, rfl⟩
                replace hc : (wr.drewN nq).cell? ⟨b, off + k, none⟩ = some (.int .i64 x) := hc
                replace d0 : (wr.drewN nq).cell? ⟨g, j * 2, none⟩ = some (.int .i64 x) := d0
                replace d1 : (wr.drewN nq).cell? ⟨g, j * 2 + 1, none⟩ = some (.int .i64 (u : Int)) := d1
                replace hsz2 : wo.heap.size ≤ (wr.drewN nq).heap.size := hsz2
                rw [hw_w3] at hc d0 d1 hsz2 hN3 ⊢
                clear hw_w3
                go_wp2_with fail
                go_quiet (fail)
                have hN4 := Lib.hid (hN3.out.drewN nq)
                obtain ⟨w4, hw_w4⟩ : ∃ w4, w3.drewN nq = w4 := ⟨_, rfl⟩
                replace hc : (w3.drewN nq).cell? ⟨b, off + k, none⟩ = some (.int .i64 x) := hc
                replace d0 : (w3.drewN nq).cell? ⟨g, j * 2, none⟩ = some (.int .i64 x) := d0
                replace d1 : (w3.drewN nq).cell? ⟨g, j * 2 + 1, none⟩ = some (.int .i64 (u : Int)) := d1
                replace hsz2 : wo.heap.size ≤ (w3.drewN nq).heap.size := hsz2
                rw [hw_w4] at hc d0 d1 hsz2 hN4 ⊢
                clear hw_w4
                have hown := hN4.out.1
                rw [hlen2] at hown
                have hlen6 : (L.take j ++ [(x, 1 + u)]).length = j + 1 := by rw [List.length_append, hlen2]; rfl
                go_wp2_with (first | (at_builtin; refine wpList_append_own _ rfl (.tmp 67) (.tmp 74) 45 rfl wo.heap.size 48 i0 (.agg #[.int .i64 0, .int .i64 0]) 2 16 Try.underlying45 hi hz0 hz1 hz2 rfl (by decide) _ _ _ rfl (hown.alloc _) ⟨w4.heap.size, 0, none⟩ 1 1 [.int .i64 x, .int .i64 (1 + (u : Int))] rfl rfl (cell_two_new _ _ _ _) (by simp [Value.oneCell']) (by unfold maxLen; omega) (by omega) (by simp; omega) ?_; intro v6 w6 hown6 hgrow6 _; rw [ecast.out] at hown6; have HN6 := Lib.hid (hN4.out.grow (M := [(x, 1 + u)]) (.inr ⟨_, rfl⟩) (by rw [hlen2]; exact hown6) hgrow6); clear hown6 hgrow6 hown; have hown := HN6.out.1; rw [hlen6] at hown; have hsz6 := HN6.out.2.size) | (at_builtin; refine wpList_append_own _ rfl (.tmp 76) (.tmp 79) 45 rfl wo.heap.size 48 i0 (.agg #[.int .i64 0, .int .i64 0]) 2 16 Try.underlying45 hi hz0 hz1 hz2 rfl (by decide) _ _ _ rfl hown ⟨g, 0, none⟩ 0 _ [] rfl rfl (fun j u hu => by simp at hu) (fun u hu => by simp at hu) (by unfold maxLen; omega) (by omega) (by omega) ?_; intro v7 w7 hown7 hgrow7 _; have HN7 := Lib.hid (show ListedP w1 (L.take j ++ ((x, 1 + u) :: L.drop (j + 1))) v7 w7 from ListedP.up (by have := HN6.out.grow (M := []) (.inl rfl) (by rw [hlen6]; exact hown7) hgrow7; rw [HDR.out]; rw [List.append_nil] at this; exact this) HL.out.2); clear hown7 hgrow7))
                go_roundw
                case rel => exact ⟨k + 1, by omega, by go_num, Lib.hid (by rw [HADD.out]; exact HN7.out)⟩
                case measure => simp [intOf]; omega
            · have q : (y == x) = false := by simp; omega
              have hgt : x < y := by omega
              have HADD := Lib.hid (show bagOf (l.take (k + 1)) = L.take j ++ ((x, 1) :: L.drop j) from by
                rw [HN.out]
                refine add1_new HSP.out.1 hlo.out fun p hp2 => ?_
                rw [hp] at hp2
                cases hp2
                exact hgt)
              have hlen2 : (L.take j).length = j := by rw [List.length_take]; omega
              have hcap : j < c4 := by omega
              clear HO hp hyx he
              go_wp2_with fail
              go_quiet (fail)
              have hN3 := Lib.hid (hN.out.drewN nq)
              obtain ⟨w3, hw_w3⟩ : ∃ w3, wr.drewN nq = w3 := ⟨_, rfl⟩
              replace hc : (wr.drewN nq).cell? ⟨b, off + k, none⟩ = some (.int .i64 x) := hc
              replace d0 : (wr.drewN nq).cell? ⟨g, j * 2, none⟩ = some (.int .i64 y) := d0
              replace d1 : (wr.drewN nq).cell? ⟨g, j * 2 + 1, none⟩ = some (.int .i64 (u : Int)) := d1
              replace hsz2 : wo.heap.size ≤ (wr.drewN nq).heap.size := hsz2
              rw [hw_w3] at hc d0 d1 hsz2 hN3 ⊢
              clear hw_w3
              go_wp2_with fail
              go_quiet (fail)
              have hN4 := Lib.hid (hN3.out.drewN nq)
              obtain ⟨w4, hw_w4⟩ : ∃ w4, w3.drewN nq = w4 := ⟨_, rfl⟩
              replace hc : (w3.drewN nq).cell? ⟨b, off + k, none⟩ = some (.int .i64 x) := hc
              replace d0 : (w3.drewN nq).cell? ⟨g, j * 2, none⟩ = some (.int .i64 y) := d0
              replace d1 : (w3.drewN nq).cell? ⟨g, j * 2 + 1, none⟩ = some (.int .i64 (u : Int)) := d1
              replace hsz2 : wo.heap.size ≤ (w3.drewN nq).heap.size := hsz2
              rw [hw_w4] at hc d0 d1 hsz2 hN4 ⊢
              clear hw_w4
              have hown := hN4.out.1
              rw [hlen2] at hown
              have hlen6 : (L.take j ++ [(x, 1)]).length = j + 1 := by rw [List.length_append, hlen2]; rfl
              go_wp2_with (first | (at_builtin; refine wpList_append_own _ rfl (.tmp 67) (.tmp 74) 45 rfl wo.heap.size 48 i0 (.agg #[.int .i64 0, .int .i64 0]) 2 16 Try.underlying45 hi hz0 hz1 hz2 rfl (by decide) _ _ _ rfl (hown.alloc _) ⟨w4.heap.size, 0, none⟩ 1 1 [.int .i64 x, .int .i64 (1)] rfl rfl (cell_two_new _ _ _ _) (by simp [Value.oneCell']) (by unfold maxLen; omega) (by omega) (by simp; omega) ?_; intro v6 w6 hown6 hgrow6 _; have HN6 := Lib.hid (hN4.out.grow (M := [(x, 1)]) (.inr ⟨_, rfl⟩) (by rw [hlen2]; exact hown6) hgrow6); clear hown6 hgrow6 hown; have hown := HN6.out.1; rw [hlen6] at hown; have hsz6 := HN6.out.2.size; obtain hcell6 := (HL.out.below HN6.out.2).cellsAt) | (at_builtin; refine wpList_append_own _ rfl (.tmp 76) (.tmp 79) 45 rfl wo.heap.size 48 i0 (.agg #[.int .i64 0, .int .i64 0]) 2 16 Try.underlying45 hi hz0 hz1 hz2 rfl (by decide) _ _ _ rfl hown ⟨g, (j) * 2, none⟩ (L.length - (j)) (c4 - (j)) (cellsIt (L.drop (j))) rfl (by rw [cellsIt_len, List.length_drop]) (cells_tail hcell6) (cellsIt_one _) (by unfold maxLen; omega) (by omega) (by omega) ?_; intro v7 w7 hown7 hgrow7 _; have HN7 := Lib.hid (show ListedP w1 (L.take j ++ ((x, 1) :: L.drop (j))) v7 w7 from ListedP.up (by have := HN6.out.grow (M := L.drop (j)) (.inl rfl) (by rw [hlen6, List.length_drop]; exact hown7) hgrow7; rw [List.append_assoc] at this; exact this) HL.out.2); clear hown7 hgrow7))
              go_roundw
              case rel => exact ⟨k + 1, by omega, by go_num, Lib.hid (by rw [HADD.out]; exact HN7.out)⟩
              case measure => simp [intOf]; omega
        · obtain rfl : j = L.length := by omega
          have HADD := Lib.hid (show bagOf (l.take (k + 1)) = L.take L.length ++ ((x, 1) :: L.drop L.length) from by
            rw [HN.out]
            exact add1_new HSP.out.1 hlo.out fun p hp2 => by rw [List.getElem?_eq_none (Nat.le_refl _)] at hp2; cases hp2)
          have hlen2 : (L.take L.length).length = L.length := by rw [List.take_of_length_le (Nat.le_refl _)]
          rcases HO.out.row with ⟨e, rfl⟩ | ⟨g, c4, rfl, hc4, _⟩
          · have HDR := Lib.hid (show L.take L.length ++ [(x, 1)] = L.take L.length ++ ((x, 1) :: L.drop L.length) by rw [List.drop_of_length_le (Nat.le_refl _)])
            have hl0 : L.length = 0 := by rw [e]; rfl
            clear HO hjl e
            go_wp2_with fail
            go_quiet (fail)
            have hN3 := Lib.hid (hN.out.drewN nq)
            obtain ⟨w3, hw_w3⟩ : ∃ w3, wr.drewN nq = w3 := ⟨_, rfl⟩
            replace hc : (wr.drewN nq).cell? ⟨b, off + k, none⟩ = some (.int .i64 x) := hc
            replace hsz2 : wo.heap.size ≤ (wr.drewN nq).heap.size := hsz2
            rw [hw_w3] at hc hsz2 hN3 ⊢
            clear hw_w3
            go_wp2_with fail
            go_quiet (fail)
            have hN4 := Lib.hid (hN3.out.drewN nq)
            obtain ⟨w4, hw_w4⟩ : ∃ w4, w3.drewN nq = w4 := ⟨_, rfl⟩
            replace hc : (w3.drewN nq).cell? ⟨b, off + k, none⟩ = some (.int .i64 x) := hc
            replace hsz2 : wo.heap.size ≤ (w3.drewN nq).heap.size := hsz2
            rw [hw_w4] at hc hsz2 hN4 ⊢
            clear hw_w4
            have hown := hN4.out.1
            rw [hlen2] at hown
            have hlen6 : (L.take L.length ++ [(x, 1)]).length = L.length + 1 := by rw [List.length_append, hlen2]; rfl
            go_wp2_with (first | (at_builtin; refine wpList_append_own _ rfl (.tmp 67) (.tmp 74) 45 rfl wo.heap.size 48 i0 (.agg #[.int .i64 0, .int .i64 0]) 2 16 Try.underlying45 hi hz0 hz1 hz2 rfl (by decide) _ _ _ rfl (hown.alloc _) ⟨w4.heap.size, 0, none⟩ 1 1 [.int .i64 x, .int .i64 (1)] rfl rfl (cell_two_new _ _ _ _) (by simp [Value.oneCell']) (by unfold maxLen; omega) (by omega) (by simp; omega) ?_; intro v6 w6 hown6 hgrow6 _; have HN6 := Lib.hid (hN4.out.grow (M := [(x, 1)]) (.inr ⟨_, rfl⟩) (by rw [hlen2]; exact hown6) hgrow6); clear hown6 hgrow6 hown; have hown := HN6.out.1; rw [hlen6] at hown; have hsz6 := HN6.out.2.size) | (at_builtin; refine wpList_append_own_none rfl (.tmp 76) (.tmp 79) 45 rfl wo.heap.size 48 i0 2 Try.underlying45 hi _ _ _ rfl hown rfl ?_; have HN7 := Lib.hid (show ListedP w1 (L.take L.length ++ ((x, 1) :: L.drop (L.length))) v6 w6 from ListedP.up (by rw [← HDR.out]; exact HN6.out) HL.out.2)))
            go_roundw
            case rel => exact ⟨k + 1, by omega, by go_num, Lib.hid (by rw [HADD.out]; exact HN7.out)⟩
            case measure => simp [intOf]; omega
          · have HDR := Lib.hid (show L.drop L.length = [] from List.drop_of_length_le (Nat.le_refl _))
            clear HO hjl
            by_cases hcap : L.length < c4
            · go_wp2_with fail
              go_quiet (fail)
              have hN3 := Lib.hid (hN.out.drewN nq)
              obtain ⟨w3, hw_w3⟩ : ∃ w3, wr.drewN nq = w3 := ⟨_, rfl⟩
              replace hc : (wr.drewN nq).cell? ⟨b, off + k, none⟩ = some (.int .i64 x) := hc
              replace hsz2 : wo.heap.size ≤ (wr.drewN nq).heap.size := hsz2
              rw [hw_w3] at hc hsz2 hN3 ⊢
              clear hw_w3
              go_wp2_with fail
              go_quiet (fail)
              have hN4 := Lib.hid (hN3.out.drewN nq)
              obtain ⟨w4, hw_w4⟩ : ∃ w4, w3.drewN nq = w4 := ⟨_, rfl⟩
              replace hc : (w3.drewN nq).cell? ⟨b, off + k, none⟩ = some (.int .i64 x) := hc
              replace hsz2 : wo.heap.size ≤ (w3.drewN nq).heap.size := hsz2
              rw [hw_w4] at hc hsz2 hN4 ⊢
              clear hw_w4
              have hown := hN4.out.1
              rw [hlen2] at hown
              have hlen6 : (L.take L.length ++ [(x, 1)]).length = L.length + 1 := by rw [List.length_append, hlen2]; rfl
              go_wp2_with (first | (at_builtin; refine wpList_append_own _ rfl (.tmp 67) (.tmp 74) 45 rfl wo.heap.size 48 i0 (.agg #[.int .i64 0, .int .i64 0]) 2 16 Try.underlying45 hi hz0 hz1 hz2 rfl (by decide) _ _ _ rfl (hown.alloc _) ⟨w4.heap.size, 0, none⟩ 1 1 [.int .i64 x, .int .i64 (1)] rfl rfl (cell_two_new _ _ _ _) (by simp [Value.oneCell']) (by unfold maxLen; omega) (by omega) (by simp; omega) ?_; intro v6 w6 hown6 hgrow6 _; have HN6 := Lib.hid (hN4.out.grow (M := [(x, 1)]) (.inr ⟨_, rfl⟩) (by rw [hlen2]; exact hown6) hgrow6); clear hown6 hgrow6 hown; have hown := HN6.out.1; rw [hlen6] at hown; have hsz6 := HN6.out.2.size) | (at_builtin; refine wpList_append_own _ rfl (.tmp 76) (.tmp 79) 45 rfl wo.heap.size 48 i0 (.agg #[.int .i64 0, .int .i64 0]) 2 16 Try.underlying45 hi hz0 hz1 hz2 rfl (by decide) _ _ _ rfl hown ⟨g, (L.length) * 2, none⟩ 0 _ [] rfl rfl (fun j u hu => by simp at hu) (fun u hu => by simp at hu) (by unfold maxLen; omega) (by omega) (by omega) ?_; intro v7 w7 hown7 hgrow7 _; have HN7 := Lib.hid (show ListedP w1 (L.take L.length ++ ((x, 1) :: L.drop (L.length))) v7 w7 from ListedP.up (by have := HN6.out.grow (M := []) (.inl rfl) (by rw [hlen6]; exact hown7) hgrow7; rw [HDR.out]; rw [List.append_nil] at this; exact this) HL.out.2); clear hown7 hgrow7))
              go_roundw
              case rel => exact ⟨k + 1, by omega, by go_num, Lib.hid (by rw [HADD.out]; exact HN7.out)⟩
              case measure => simp [intOf]; omega
            · obtain rfl : c4 = L.length := by omega

              clear hcap
              go_wp2_with fail
              go_quiet (fail)
              have hN3 := Lib.hid (hN.out.drewN nq)
              obtain ⟨w3, hw_w3⟩ : ∃ w3, wr.drewN nq = w3 := ⟨_, rfl⟩
              replace hc : (wr.drewN nq).cell? ⟨b, off + k, none⟩ = some (.int .i64 x) := hc
              replace hsz2 : wo.heap.size ≤ (wr.drewN nq).heap.size := hsz2
              rw [hw_w3] at hc hsz2 hN3 ⊢
              clear hw_w3
              go_wp2_with fail
              go_quiet (fail)
              have hN4 := Lib.hid (hN3.out.drewN nq)
              obtain ⟨w4, hw_w4⟩ : ∃ w4, w3.drewN nq = w4 := ⟨_, rfl⟩
              replace hc : (w3.drewN nq).cell? ⟨b, off + k, none⟩ = some (.int .i64 x) := hc
              replace hsz2 : wo.heap.size ≤ (w3.drewN nq).heap.size := hsz2
              rw [hw_w4] at hc hsz2 hN4 ⊢
              clear hw_w4
              have hown := hN4.out.1
              rw [hlen2] at hown
              have hlen6 : (L.take L.length ++ [(x, 1)]).length = L.length + 1 := by rw [List.length_append, hlen2]; rfl
              go_wp2_with (first | (at_builtin; refine wpList_append_own _ rfl (.tmp 67) (.tmp 74) 45 rfl wo.heap.size 48 i0 (.agg #[.int .i64 0, .int .i64 0]) 2 16 Try.underlying45 hi hz0 hz1 hz2 rfl (by decide) _ _ _ rfl (hown.alloc _) ⟨w4.heap.size, 0, none⟩ 1 1 [.int .i64 x, .int .i64 (1)] rfl rfl (cell_two_new _ _ _ _) (by simp [Value.oneCell']) (by unfold maxLen; omega) (by omega) (by simp; omega) ?_; intro v6 w6 hown6 hgrow6 _; have HN6 := Lib.hid (hN4.out.grow (M := [(x, 1)]) (.inr ⟨_, rfl⟩) (by rw [hlen2]; exact hown6) hgrow6); clear hown6 hgrow6 hown; have hown := HN6.out.1; rw [hlen6] at hown; have hsz6 := HN6.out.2.size) | (at_builtin; refine wpList_append_own _ rfl (.tmp 76) (.tmp 79) 45 rfl wo.heap.size 48 i0 (.agg #[.int .i64 0, .int .i64 0]) 2 16 Try.underlying45 hi hz0 hz1 hz2 rfl (by decide) _ _ _ rfl hown ⟨g, 0, none⟩ 0 _ [] rfl rfl (fun j u hu => by simp at hu) (fun u hu => by simp at hu) (by unfold maxLen; omega) (by omega) (by omega) ?_; intro v7 w7 hown7 hgrow7 _; have HN7 := Lib.hid (show ListedP w1 (L.take L.length ++ ((x, 1) :: L.drop (L.length))) v7 w7 from ListedP.up (by have := HN6.out.grow (M := []) (.inl rfl) (by rw [hlen6]; exact hown7) hgrow7; rw [HDR.out]; rw [List.append_nil] at this; exact this) HL.out.2); clear hown7 hgrow7))
              go_roundw
              case rel => exact ⟨k + 1, by omega, by go_num, Lib.hid (by rw [HADD.out]; exact HN7.out)⟩
              case measure => simp [intOf]; omega
    · obtain rfl : k = l.length := by omega
      rw [List.take_of_length_le (Nat.le_refl _)] at HL
      have HF := Lib.hid (show (∃ v, Ending.returned u4 = .returned v ∧ Reads wr v (bagOf l)) ∧ Only [] W wr from ⟨⟨_, rfl, Reads.of_row HL.out.1⟩, HP.out.2.trans (only_of_below' HL.out.2)⟩)
      go_wp2_with fail
      go_ret
      exact HF.out
end
end Go.Proofs.Ytbafacdknaopjaa
